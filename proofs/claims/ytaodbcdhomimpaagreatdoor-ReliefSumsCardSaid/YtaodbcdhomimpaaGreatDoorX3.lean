/-
  Texts of the proof: GvE5, GvF5, GvG0, GvF6, GvF7, GvF8, GvF9, GvF10, GvF11.
-/
import Derived.Test.YtaodbcdhomimpaaGreatDoorX2
import Derived.Carry
import Derived.DeepKeys4
import Derived.Laws.Externs
import Derived.Laws.StructEq
import Derived.Test.YtaodbcdhomimpaaGreatDoorX1
set_option linter.all false
namespace Go.Gv
open Go.RowKit
open Go.Maps (Keyed IsMap)
def intTy (P : Program) (q : IntKind) (t : TypeId) : Bool := match P.underlying t with
  | some (.int q') => q' == q
  | _ => false
def shOk (P : Program) (k : TypeId) : KSh → Bool
  | .int q => intTy P q k
  | .str => match P.underlying k with
    | some .string => true
    | _ => false
  | .bool => match P.underlying k with
    | some .bool => true
    | _ => false
  | .ints q n => P.keyType k && decide (k < P.types.size) && P.keyTypeAt 3 k && P.cellsOf k == n && match P.underlying k with
    | some (.array n' e) => n' == n && intTy P q e && P.cellsOf e == 1
    | some (.struct fs) => fs.size == n && fs.toList.zipIdx.all fun p => p.1.offset == p.2 && intTy P q p.1.type && P.cellsOf p.1.type == 1 && p.1.name != "_"
    | _ => false
theorem intTy_u {P : Program} {q : IntKind} {t : TypeId} (h : intTy P q t = true) : P.underlying t = some (.int q) := by
  unfold intTy at h
  split at h
  · rename_i q' e; simp only [beq_iff_eq] at h; rw [e, h]
  · cases h
theorem sh_keyed {P : Program} {k : TypeId} {sh : KSh} (hl : laidOutB P = true) (h : shOk P k sh = true) : Keyed P k := by
  cases sh with
  | int q => exact Maps.int_keyed (intTy_u h)
  | str =>
    simp only [shOk] at h
    split at h
    · rename_i e; exact Maps.string_keyed e
    · cases h
  | bool =>
    simp only [shOk] at h
    split at h
    · rename_i e; exact Maps.bool_keyed e
    · cases h
  | ints q n =>
    simp only [shOk, Bool.and_eq_true, decide_eq_true_eq] at h
    obtain ⟨⟨⟨⟨h1, h2⟩, h3⟩, h4⟩, h5⟩ := h
    refine Keyed.of_law (deep_law_laid hl (m := 3) (by omega) h2 h3 ?_)
    split at h5
    · rename_i e; rw [e]
    · rename_i e; rw [e]
    · cases h5
theorem mapM_isSome {α β : Type} {f : α → Option β} : ∀ (l : List α), (∀ x ∈ l, ∃ y, f x = some y) → ∃ ys, l.mapM f = some ys
  | [], _ => ⟨[], rfl⟩
  | x :: l, h => by
    obtain ⟨y, hy⟩ := h x (by simp)
    obtain ⟨ys, hys⟩ := mapM_isSome l (fun y hy => h y (by simp [hy]))
    exact ⟨y :: ys, by rw [List.mapM_cons, hy, hys]; rfl⟩
theorem sh_key {P : Program} {F : Fid} {M : Mem} {k : TypeId} {sh : KSh} {d : D} {v : Value} (h : shOk P k sh = true) (hd : keyOkD sh d) (r : RepC F M d v) : ∃ kl, keyOf P k v = some kl := by
  cases sh with
  | int q =>
    cases d <;> simp only [keyOkD] at hd
    obtain ⟨rfl, hw⟩ := hd
    simp only [RepC] at r
    subst r
    exact ⟨_, Maps.keyOf_int_mk (intTy_u h) hw⟩
  | str =>
    cases d <;> simp only [keyOkD] at hd
    simp only [RepC] at r
    subst r
    simp only [shOk] at h
    split at h
    · rename_i e; exact ⟨_, by rw [keyOf, e]; simp only [mapKey, e]; rw [if_pos (by simpa [ByteArray.size] using hd)]⟩
    · cases h
  | bool =>
    cases d <;> simp only [keyOkD] at hd
    simp only [RepC] at r
    subst r
    simp only [shOk] at h
    split at h
    · rename_i e; exact ⟨_, Maps.keyOf_bool_mk e _⟩
    · cases h
  | ints q n =>
    cases d <;> simp only [keyOkD] at hd
    rename_i ds
    obtain ⟨hn, hd⟩ := hd
    simp only [RepC] at r
    obtain ⟨vs, rfl, r⟩ := r
    simp only [shOk, Bool.and_eq_true, decide_eq_true_eq, beq_iff_eq] at h
    obtain ⟨⟨⟨⟨h1, h2⟩, h3⟩, h4⟩, h5⟩ := h
    have hl : vs.length = n := by rw [r.length, hn]
    have one : ∀ (e : TypeId) (i : Nat), intTy P q e = true → i < n → P.keyLits P.types.size e ((vs.drop i).take 1) = none → False := by
      intro e i he hi hnone
      have hi' : i < ds.length := by omega
      obtain ⟨v, hv, rv⟩ := r.get (List.getElem?_eq_getElem hi')
      obtain ⟨x, hx, hw⟩ := hd _ (List.getElem_mem hi')
      rw [hx] at rv
      simp only [RepC] at rv
      have ht : (vs.drop i).take 1 = [v] := by
        obtain ⟨hlt, e1⟩ := List.getElem?_eq_some_iff.1 hv
        rw [List.drop_eq_getElem_cons hlt, e1]
        simp
      rw [ht, rv] at hnone
      obtain ⟨m, hm⟩ : ∃ m, P.types.size = m + 1 := ⟨P.types.size - 1, by have : 0 < P.types.size := Nat.lt_of_le_of_lt (Nat.zero_le k) h2; omega⟩
      rw [hm] at hnone
      simp only [Program.keyLits, intTy_u he] at hnone
      rw [if_pos (by exact ⟨trivial, hw⟩)] at hnone
      cases hnone
    have one' : ∀ (e : TypeId) (i : Nat), intTy P q e = true → i < n → ∃ y, P.keyLits P.types.size e ((vs.drop i).take 1) = some y := fun e i he hi => by
      cases hk : P.keyLits P.types.size e ((vs.drop i).take 1) with
      | none => exact (one e i he hi hk).elim
      | some y => exact ⟨y, rfl⟩
    have lits : ∃ ls, P.keyLits (P.types.size + 1) k vs = some ls := by
      unfold Program.keyLits
      split at h5
      · rename_i n' e hu
        simp only [Bool.and_eq_true, beq_iff_eq] at h5
        obtain ⟨⟨rfl, he⟩, hc⟩ := h5
        rw [hu]
        simp only
        rw [if_pos (by rw [h4, hl])]
        obtain ⟨ys, hys⟩ := mapM_isSome (f := fun i => P.keyLits P.types.size e ((vs.drop (i * P.cellsOf e)).take (P.cellsOf e))) (List.range n') (fun i hi => by
          rw [hc, Nat.mul_one]; exact one' e i he (by simpa using hi))
        rw [hys]
        exact ⟨_, rfl⟩
      · rename_i fs hu
        simp only [Bool.and_eq_true, beq_iff_eq, List.all_eq_true] at h5
        obtain ⟨hs, hf⟩ := h5
        have fld : ∀ f ∈ fs.toList, ∃ i, i < n ∧ f.offset = i ∧ intTy P q f.type = true ∧ P.cellsOf f.type = 1 ∧ (f.name != "_") = true := fun f hfm => by
          obtain ⟨i, hi, e⟩ := List.mem_iff_getElem.1 hfm
          have := hf (f, i) (List.mem_zipIdx_iff_getElem?.2 (by rw [List.getElem?_eq_getElem hi, e]))
          simp only at this
          exact ⟨i, by simpa [hs] using hi, this.1.1.1, this.1.1.2, this.1.2, this.2⟩
        rw [hu]
        simp only
        have hall : (fs.all fun x => x.name != "_") = true := by
          rw [← Array.all_toList, List.all_eq_true]
          intro f hfm
          obtain ⟨_, _, _, _, _, h⟩ := fld f hfm
          exact h
        rw [if_pos ⟨by rw [h4, hl], hall⟩]
        obtain ⟨ys, hys⟩ := mapM_isSome (f := fun f : Field => P.keyLits P.types.size f.type ((vs.drop f.offset).take (P.cellsOf f.type))) fs.toList (fun f hfm => by
          obtain ⟨i, hi, e1, e2, e3, _⟩ := fld f hfm
          rw [e1, e3]; exact one' _ i e2 hi)
        rw [hys]
        exact ⟨_, rfl⟩
      · cases h5
    obtain ⟨ls, hls⟩ := lits
    have hform : (Value.agg vs.toArray).formed P k = true := by
      unfold Value.formed
      split at h5
      · rename_i e; simp only [e]; simp [h4, hl]
      · rename_i e; simp only [e]; simp [h4, hl]
      · cases h5
    refine ⟨.string (keyBytes ls), ?_⟩
    unfold keyOf
    split at h5
    · rename_i e
      rw [e]
      simp only [h1, hform, Bool.and_self, if_true, Value.cells, List.toList_toArray, hls]
      rfl
    · rename_i e
      rw [e]
      simp only [h1, hform, Bool.and_self, if_true, Value.cells, List.toList_toArray, hls]
      rfl
    · cases h5
theorem keyOk_fl {sh : KSh} {d : D} (h : keyOkD sh d) : keyFl d = true := by
  cases sh <;> cases d <;> simp only [keyOkD] at h <;> try rfl
  rename_i ds
  simp only [keyFl, List.all_eq_true]
  intro x hx
  obtain ⟨y, rfl, _⟩ := h.2 x hx
  rfl
theorem eqD1_iff {F : Fid} {M M' : Mem} {x k : D} {u v : Value} (hx : fl1 x = true) (hk : fl1 k = true) (ru : RepC F M x u) (rv : RepC F M' k v) : eqD1 x k = true ↔ u = v := by
  cases x <;> simp only [fl1, Bool.false_eq_true] at hx <;> cases k <;> simp only [fl1, Bool.false_eq_true] at hk <;> simp only [RepC] at ru rv <;> subst ru <;> subst rv <;> simp [eqD1]
theorem eqDs_iff {F : Fid} {M M' : Mem} : ∀ {xs ks : List D} {us vs : List Value}, xs.all fl1 = true → ks.all fl1 = true → RepL F M xs us → RepL F M' ks vs → (eqDs xs ks = true ↔ us = vs)
  | [], [], us, vs, _, _, ru, rv => by simp only [RepL] at ru rv; subst ru; subst rv; simp [eqDs]
  | [], k :: ks, us, vs, _, _, ru, rv => by
    simp only [RepL] at ru rv
    obtain ⟨v, r, rfl, _⟩ := rv
    subst ru
    simp [eqDs]
  | x :: xs, [], us, vs, _, _, ru, rv => by
    simp only [RepL] at ru rv
    obtain ⟨v, r, rfl, _⟩ := ru
    subst rv
    simp [eqDs]
  | x :: xs, k :: ks, us, vs, hx, hk, ru, rv => by
    simp only [RepL] at ru rv
    obtain ⟨u, us', rfl, r1, r2⟩ := ru
    obtain ⟨v, vs', rfl, r3, r4⟩ := rv
    simp only [List.all_cons, Bool.and_eq_true] at hx hk
    simp only [eqDs, Bool.and_eq_true, List.cons.injEq]
    rw [eqD1_iff hx.1 hk.1 r1 r3, eqDs_iff hx.2 hk.2 r2 r4]
theorem eqD_iff {F : Fid} {M M' : Mem} {x k : D} {u v : Value} (hx : keyFl x = true) (hk : keyFl k = true) (ru : RepC F M x u) (rv : RepC F M' k v) : eqD x k = true ↔ u = v := by
  have pl : ∀ {d : D} {w : Value} {M : Mem}, fl1 d = true → RepC F M d w → ∀ vs, w ≠ .agg vs := fun {d w M} h r vs e => by
    cases d <;> simp only [fl1, Bool.false_eq_true] at h <;> simp only [RepC] at r <;> rw [r] at e <;> cases e
  by_cases ax : ∃ xs, x = .agg xs
  · obtain ⟨xs, rfl⟩ := ax
    simp only [RepC] at ru
    obtain ⟨us, rfl, ru⟩ := ru
    by_cases ak : ∃ ks, k = .agg ks
    · obtain ⟨ks, rfl⟩ := ak
      simp only [RepC] at rv
      obtain ⟨vs, rfl, rv⟩ := rv
      simp only [keyFl] at hx hk
      have := eqDs_iff hx hk ru rv
      simp only [eqD]
      rw [this]
      constructor
      · rintro rfl; rfl
      · intro h
        injection h with h
        simpa using h
    · have hk1 : fl1 k = true := by
        cases k <;> first | exact hk | (exact absurd ⟨_, rfl⟩ ak)
      have e1 : eqD (.agg xs) k = eqD1 (.agg xs) k := by
        cases k <;> first | rfl | (exact absurd ⟨_, rfl⟩ ak)
      have e2 : eqD1 (.agg xs) k = false := by cases k <;> rfl
      rw [e1, e2]
      exact ⟨fun h => absurd h (by simp), fun h => absurd h.symm (pl hk1 rv _)⟩
  · have hx1 : fl1 x = true := by
      cases x <;> first | exact hx | (exact absurd ⟨_, rfl⟩ ax)
    by_cases ak : ∃ ks, k = .agg ks
    · obtain ⟨ks, rfl⟩ := ak
      simp only [RepC] at rv
      obtain ⟨vs, rfl, rv⟩ := rv
      have e1 : eqD x (.agg ks) = false := by
        cases x <;> first | rfl | (exact absurd ⟨_, rfl⟩ ax)
      rw [e1]
      exact ⟨fun h => absurd h (by simp), fun h => absurd h (pl hx1 ru _)⟩
    · have hk1 : fl1 k = true := by
        cases k <;> first | exact hk | (exact absurd ⟨_, rfl⟩ ak)
      have e1 : eqD x k = eqD1 x k := by
        cases x <;> first | rfl | (exact absurd ⟨_, rfl⟩ ax)
      rw [e1]
      exact eqD1_iff hx1 hk1 ru rv
section
variable {F : Fid} {kt et : Nat}
theorem MapD.isMap : ∀ {ks vs : List D} {d : DataW Empty}, MapD F kt et ks vs d → IsMap d
  | [], [], d, h => ⟨[], h⟩
  | [], _ :: _, d, h => h.elim
  | _ :: _, [], d, h => h.elim
  | k :: ks, v :: vs, d, h => by
    obtain ⟨d', kv, kl, vv, vd, h1, rfl, _⟩ := h
    exact (MapD.isMap h1).put _ _
theorem MapD.at_ (K : Keyed F.P (F.ty kt)) {M : Mem} {x : D} {xv : Value} {xl : Lit} (hx : keyFl x = true) (rx : RepC F M x xv) (hk : keyOf F.P (F.ty kt) xv = some xl) : ∀ {ks vs : List D} {d : DataW Empty}, MapD F kt et ks vs d → (∀ k ∈ ks, keyFl k = true) →
    (mpGet ks vs x = none ∧ Maps.has d xl = false) ∨ ∃ v vv vd, mpGet ks vs x = some v ∧ Maps.has d xl = true ∧ RepC F (fun _ => none) v vv ∧ plainElem F.P (F.ty et) vv = some (vd, []) ∧ ∀ z, d.atKey xl z = vd
  | [], [], d, h, _ => by
    simp only [MapD] at h
    subst h
    exact .inl ⟨rfl, rfl⟩
  | [], _ :: _, d, h, _ => h.elim
  | _ :: _, [], d, h, _ => h.elim
  | k :: ks, v :: vs, d, h, hf => by
    obtain ⟨d', kv, kl, vv, vd, h1, rfl, h3, h4, h5, h6⟩ := h
    have he := eqD_iff hx (hf k (by simp)) rx h3
    simp only [mpGet]
    cases hb : eqD x k with
    | true =>
      have e1 : xv = kv := he.1 hb
      subst e1
      rw [hk] at h4
      cases h4
      right
      exact ⟨v, vv, vd, rfl, Maps.has_put_same (MapD.isMap h1) (K.key hk) _, h5, h6, fun z => Maps.atKey_put_same (MapD.isMap h1) (K.key hk) _ z⟩
    | false =>
      have hne : xl ≠ kl := fun e => by
        subst e
        have := K.inj hk h4
        rw [he.2 this] at hb
        cases hb
      simp only [Bool.false_eq_true, if_false]
      rw [Maps.has_put_other hne]
      rcases MapD.at_ K hx rx hk h1 (fun k hk => hf k (by simp [hk])) with h7 | ⟨v', vv', vd', g1, g2, g3, g4, g5⟩
      · exact .inl h7
      · exact .inr ⟨v', vv', vd', g1, g2, g3, g4, fun z => (Maps.atKey_put_other hne _ z).trans (g5 z)⟩
end
def mapOk (F : Fid) (t kt et : Nat) (sh : KSh) (z : D) : Bool := shOk F.P (F.ty kt) sh && (match F.P.underlying t with
    | some (.map k e) => k == F.ty kt && e == F.ty et
    | _ => false) && match F.P.info? (F.ty et), F.P.underlying (F.ty et), z with
      | some i, some (.int q), .int q' n => q == q' && n == 0 && (match i.zero with
        | some (.int q'' n'') => q'' == q && n'' == 0
        | _ => false)
      | some i, some .bool, .bool b => b == false && (match i.zero with
        | some (.bool b) => b == false
        | _ => false)
      | some i, some .string, .str s => s.isEmpty && (match i.zero with
        | some (.string s) => s.data.toList.isEmpty
        | _ => false)
      | _, _, _ => false
section
variable {P : Program} {F : Fid} {nt : Nat} {S : Nat → Prop} {L : Nat → Option Loc} {w0 : World} {M0 : Mem} {f : Nat → D} {M : Mem} {a : Act} {w : World} {o : Oper} {d : D} {Q : Exit → Act → World → Prop} {ρ : Pa → Loc} {ω : Nat → Option Pa} {New : Nat → Prop} {C : Nat → List D → D → List D → Prop} {K : List (Nat × D) → List (Nat × Bool) → Prop}
theorem wp_skip_map {K : Act → World → Prop} {w' : World} (h : (execOp a.eval o).run P w = .ok .skip w') (hk : K (a.put o.dst undef) w') : o.wp P a w K Q := by
  unfold Oper.wp
  rw [h]
  exact hk
theorem plain_inj {e : TypeId} {u v : Value} {d : DataW Empty} {ps qs : List MemPlace} (hu : plainElem P e u = some (d, ps)) (hv : plainElem P e v = some (d, qs)) : u = v := by
  unfold plainElem at hu hv
  split at hu
  · rename_i he
    rw [he] at hv
    cases v <;> simp only [reduceCtorEq] at hv
    simp only [Option.some.injEq, Prod.mk.injEq] at hu hv
    have := hu.1.trans hv.1.symm
    cases this
    rfl
  · rename_i he
    split at hu
    · rename_i h1
      rw [he] at hv
      cases v <;> simp only [reduceCtorEq] at hv
      split at hv
      · rename_i h2
        simp only [Option.some.injEq, Prod.mk.injEq] at hu hv
        have := hu.1.trans hv.1.symm
        obtain ⟨rfl, _⟩ := h1
        obtain ⟨rfl, _⟩ := h2
        cases this
        rfl
      · cases hv
    · cases hu
  · rename_i he
    split at hu
    · rw [he] at hv
      cases v <;> simp only [reduceCtorEq] at hv
      split at hv
      · rename_i s1 _ s2 _
        simp only [Option.some.injEq, Prod.mk.injEq] at hu hv
        have := hu.1.trans hv.1.symm
        injection this with this
        injection this with this
        obtain ⟨s1⟩ := s1
        obtain ⟨s2⟩ := s2
        simp only at this
        rw [Array.ext' this.symm]
      · cases hv
    · cases hu
  · cases hu
theorem Own.bigM (h : Own F L New f M a w ρ ω) {b kt et : Nat} {ks vs : List D} (e : f b = .mp kt et ks vs) : 10000 ≤ b := by
  rcases Nat.lt_or_ge b 10000 with hb | hb
  · rcases h.slots b hb with h1 | ⟨v, _, h1⟩
    · rw [e] at h1; cases h1
    · rw [e] at h1; simp [RepV, RepR, RepC] at h1
  · exact hb
theorem snd_mkm (h : SR F nt S L w0 M0 f M a w) {t : Nat} (hd : o.dst = some t) (ht : t < nt) (hL : L (rt t 0) = none) {kt et : Nat} {T : TypeId} (ho : o.op = .makeMap T none)
    (hr : K [(t, .mrf (rt t 0)), (rt t 0, .mp kt et [] [])] [(rt t 0, true)]) : o.wp P a w (PostX F nt S L w0 M0 f K) Q := by
  have hrun : (execOp a.eval o).run P w = .ok (.value (.map (some w.heap.size))) (w.alloc (.map #[] 0)) := by
    simp only [execOp, ho, Option.map_none, Sem.run_bind, run_makeMap, Result.andThen_ok, Sem.run_pure]
  refine postX_val (M := M) hd hrun hr ?_
  have hbw := alloc_below w (.map #[] 0)
  have hs : (w.alloc (.map #[] 0)).heap.size = w.heap.size + 1 := by simp
  have hb0 := rt_big t 0
  generalize hb : rt t 0 = b at *
  refine { hnt := h.hnt, size := by simp [Act.put, h.size], defers := by simp [Act.put, h.defers], ch := h.ch.trans (Ch.of_below hbw (fun _ => False)) (fun _ _ e => e.elim), holds := fun p v hp => ?_, ext := h.ext, fresh := h.fresh, own := ?_ }
  · have h1 := h.holds p v hp
    rw [hbw.cell (World.block_lt_of_cell? w p h1)]
    exact h1
  · obtain ⟨ρ, ω, hO⟩ := h.own
    have ht10 : t < 10000 := by have := h.hnt; omega
    have lk : ∀ s, s ≠ t → s ≠ b → [(t, D.mrf b), (b, .mp kt et [] [])].lookup s = none := fun s h1 h2 => by
      have e1 : (s == t) = false := by simpa using h1
      have e2 : (s == b) = false := by simpa using h2
      simp only [List.lookup_cons, e1, e2, List.lookup_nil]
    have lkb : [(t, D.mrf b), (b, .mp kt et [] [])].lookup b = some (.mp kt et [] []) := by
      have e1 : (b == t) = false := by simp; omega
      simp only [List.lookup_cons, e1, beq_self_eq_true]
    have hMn : ∀ p : Addr, p.block = w.heap.size → M p = none := fun p hp => by
      rcases hq : M p with _ | u
      · rfl
      · have := World.block_lt_of_cell? w p (h.holds p u hq); omega
    refine ⟨_, _, hO.move (b := b) (nb := some w.heap.size) (π := fun _ => none) (ρb := fun p => match p with | .r _ => ⟨w.heap.size, 0, 0, 0⟩ | .n _ _ _ => ρ p) (ks := [(b, true)]) (fun p p' q e => (by cases e)) (fun p q e => (by cases e)) (fun k e => ?_) hbw.size (fun p hp hne => ⟨(b, true), by simp, ?_⟩) (Mem.le_refl _) hO.apart (fun s hs' => ?_) (fun k q hk _ _ => hbw.block k (hO.lt k q hk))
      (fun c hc hcb => ?_) (fun _ _ => .inr ⟨kt, et, [], [], eff_at lkb, ?_⟩) (fun l' e _ => by rw [hL] at e; cases e)⟩
    · cases e
      exact ⟨Nat.le_refl _, by omega, .inr h.ch.size, hMn⟩
    · cases p with
      | r c => simp only [Pa.root] at hp; simp [mentP, hp]
      | n c i off => exact absurd rfl hne
    · by_cases e : s = t
      · subst e
        refine .inr (.inr ⟨_, getElem?_put_same (by rw [h.size]; exact ht), ?_⟩)
        rw [eff_at (d := .mrf b) (by simp), repV_of rfl]
        simp [RepR, mvρ, Pa.root]
      · left
        rcases eff_slot (f := f) (ks := [(b, true)]) (lk s e (by omega)) with h2 | h2
        · exact .inl h2
        · exact .inr ⟨h2.1, getElem?_put e, h2.2⟩
    · exact eff_root (lk c (by omega) hcb)
    · have e1 : mvρ b (fun p => match p with | .r _ => (⟨w.heap.size, 0, 0, 0⟩ : Loc) | .n _ _ _ => ρ p) ρ (.r b) = ⟨w.heap.size, 0, 0, 0⟩ := by simp [mvρ, Pa.root]
      refine ⟨by rw [e1]; exact mvω_new rfl, ?_⟩
      rw [e1]
      exact ⟨0, .map [], Nat.le_refl _, World.ownsMap_made w _ _ _, by simp, rfl⟩
theorem SR.mapPut (h : SR F nt S L w0 M0 f M a w) (hO : Own F L (NewB S w0) f M a w ρ ω) {b kt et : Nat} {ks vs ks' vs' : List D} (hf : f b = .mp kt et ks vs) {w' : World} {es : Array MapEntry} {clock : Nat} (hw : w' = ChangeMaps.setBlock w (ρ (.r b)).blk (.map es clock)) (hm : MapB F w' (ρ (.r b)).blk kt et ks' vs') :
    SR F nt S L w0 M0 (eff [(b, .mp kt et ks' vs')] [] f) M a w' := by
  have hb := hO.bigM hf
  have hroot := hO.maps b kt et ks vs hb hf
  obtain ⟨hω, n0, d0, hn0, hown, hfl, hmd⟩ := hroot
  have hlt := hown.lt
  obtain ⟨es0, cl0, hb0, _⟩ := hown
  have rest : ∀ k, k ≠ (ρ (.r b)).blk → w'.heap[k]? = w.heap[k]? := fun k hk => by rw [hw]; exact ChangeMaps.heap_setBlock_other hb0 _ hk
  have hsz : w'.heap.size = w.heap.size := by rw [hw]; simp [ChangeMaps.setBlock]
  have hMb : ∀ p : Addr, p.block = (ρ (.r b)).blk → M p = none := fun p hp => hO.apart p (.r b) (by rw [hp]; exact hω)
  have hfb : eff [(b, .mp kt et ks' vs')] [] f b = .mp kt et ks' vs' := eff_at (by simp)
  have lk : ∀ s, s ≠ b → [(b, D.mp kt et ks' vs')].lookup s = none := fun s h1 => by
    have e1 : (s == b) = false := by simpa using h1
    simp only [List.lookup_cons, e1, List.lookup_nil]
  refine { hnt := h.hnt, size := h.size, defers := h.defers, ch := ch_set h.ch (hO.new _ _ hω) rest hsz (by rw [hw]; rfl) (by rw [hw]; rfl) (by rw [hw]; rfl) (by rw [hw]; exact Nat.le_refl _), holds := fun p v hp => ?_, ext := h.ext, fresh := h.fresh, own := ⟨ρ, ω, ?_⟩ }
  · have hne : p.block ≠ (ρ (.r b)).blk := fun e => by rw [hMb p e] at hp; cases hp
    rw [World.cell?_of_block (rest _ hne)]
    exact h.holds p v hp
  · refine hO.step (ks := []) (fun p hp => absurd rfl hp) (Mem.le_refl _) (Nat.le_of_eq hsz.symm) (fun t ht => .inl ?_) (fun c hc => ?_) (fun k p e => .inl ⟨p, e⟩) hO.apart (fun c l hc hl hB => ⟨rfl, ?_⟩)
    · rcases eff_slot (f := f) (ks := []) (lk t (by omega)) with h2 | h2
      · exact .inl h2
      · exact .inr ⟨h2.1, rfl, h2.2⟩
    · by_cases e : c = b
      · subst e
        exact .inr (.inr ⟨kt, et, ks', vs', hfb, hω, hm⟩)
      · rcases eff_slot (f := f) (ks := []) (lk c e) with h2 | h2
        · exact .inl (.inl (by rw [h2]; rfl))
        · exact .inl (.inr ⟨h2.1, fun p hp => ⟨rfl, fun ho => ⟨ho, rest _ (fun e' => by
            rw [e', hω] at ho
            cases ho
            exact e hp.symm)⟩⟩⟩)
    · by_cases e : c = b
      · subst e; rw [hf]; rfl
      · rcases eff_slot (f := f) (ks := []) (lk c e) with h2 | h2
        · rw [h2] at hB; cases hB
        · rw [← h2.1]; exact hB
theorem mapOk_ty {t kt et : Nat} {sh : KSh} {z : D} (h : mapOk F t kt et sh z = true) : shOk F.P (F.ty kt) sh = true ∧ F.P.underlying t = some (.map (F.ty kt) (F.ty et)) ∧ ∃ zv zd, (∀ w, (zeroValue (F.ty et)).run F.P w = .ok zv w) ∧ RepC F (fun _ => none) z zv ∧ plainElem (H := Empty) F.P (F.ty et) zv = some (zd, []) ∧
    ∀ (M : Mem) (v : D) (vv : Value), elOkD z v → RepC F M v vv → RepC F (fun _ => none) v vv ∧ ∃ vd, plainElem (H := Empty) F.P (F.ty et) vv = some (vd, []) := by
  unfold mapOk at h
  simp only [Bool.and_eq_true] at h
  obtain ⟨⟨h1, h2⟩, h3⟩ := h
  refine ⟨h1, ?_, ?_⟩
  · split at h2
    · rename_i e; simp only [Bool.and_eq_true, beq_iff_eq] at h2; rw [e, h2.1, h2.2]
    · cases h2
  · split at h3
    · rename_i i q q' n hi hu
      simp only [Bool.and_eq_true, beq_iff_eq] at h3
      obtain ⟨⟨rfl, rfl⟩, h3⟩ := h3
      split at h3
      · rename_i q'' n'' hz
        simp only [Bool.and_eq_true, beq_iff_eq] at h3
        obtain ⟨rfl, rfl⟩ := h3
        exact ⟨.int q'' 0, _, fun w => by simp [zeroValue, typeInfo, hi, hz], rfl, plainElem_int hu (by cases q'' <;> decide), fun M v vv hv r => by
          cases v <;> simp only [elOkD] at hv
          obtain ⟨rfl, hv⟩ := hv
          refine ⟨r, ?_⟩
          simp only [RepC] at r
          subst r
          exact ⟨_, plainElem_int hu hv⟩⟩
      · cases h3
    · rename_i i b hi hu
      simp only [Bool.and_eq_true, beq_iff_eq] at h3
      obtain ⟨rfl, h3⟩ := h3
      split at h3
      · rename_i b hz
        simp only [beq_iff_eq] at h3
        subst h3
        exact ⟨.bool false, _, fun w => by simp [zeroValue, typeInfo, hi, hz], rfl, plainElem_bool hu _, fun M v vv hv r => by
          cases v <;> simp only [elOkD] at hv
          refine ⟨r, ?_⟩
          simp only [RepC] at r
          subst r
          exact ⟨_, plainElem_bool hu _⟩⟩
      · cases h3
    · rename_i i s hi hu
      simp only [Bool.and_eq_true, List.isEmpty_iff] at h3
      obtain ⟨rfl, h3⟩ := h3
      split at h3
      · rename_i s hz
        simp only [List.isEmpty_iff] at h3
        obtain ⟨s⟩ := s
        simp only at h3
        have hs : s = #[] := by simpa using h3
        subst hs
        exact ⟨.string ⟨#[]⟩, _, fun w => by simp [zeroValue, typeInfo, hi, hz], rfl, plainElem_string hu (by decide), fun M v vv hv r => by
          cases v <;> simp only [elOkD] at hv
          refine ⟨r, ?_⟩
          simp only [RepC] at r
          subst r
          exact ⟨_, plainElem_string hu (by simpa [ByteArray.size] using hv)⟩⟩
      · cases h3
    · cases h3
theorem RepC.noMem {d : D} {v : Value} (h : RepC F (fun _ => none) d v) : RepC F M d v := RepC.mono (fun _ _ e => by cases e) _ _ h
theorem key_flat {d : D} {v : Value} (hd : keyFl d = true) (h : RepC F M d v) : RepC F (fun _ => none) d v := by
  have one : ∀ {d : D} {v : Value}, fl1 d = true → RepC F M d v → RepC F (fun _ => none) d v := fun {d v} hd h => by
    cases d <;> simp only [fl1, Bool.false_eq_true] at hd <;> exact h
  have lst : ∀ {ds : List D} {vs : List Value}, ds.all fl1 = true → RepL F M ds vs → RepL F (fun _ => none) ds vs := by
    intro ds
    induction ds with
    | nil => intro vs _ h; exact h
    | cons d ds ih =>
      intro vs hd h
      simp only [List.all_cons, Bool.and_eq_true] at hd
      obtain ⟨v, r, e, h1, h2⟩ := h
      exact ⟨v, r, e, one hd.1 h1, ih hd.2 h2⟩
  cases d
  case agg ds =>
    simp only [RepC] at h ⊢
    obtain ⟨vs, e, h⟩ := h
    exact ⟨vs, e, lst hd h⟩
  all_goals exact one hd h
theorem snd_mpl (hl : laidOutB F.P = true) (h : SR F nt S L w0 M0 f M a w) (hp : putOk nt f o.dst) {sh : KSh} {kt et : Nat} {ok : Bool} {z : D} {m x : Opd} {m' x' : Operand} {t : TypeId} (ho : o.op = .lookup t m' x' ok) (hm : opdOk F m m' = true) (hx : opdOk F x x' = true)
    (hk : mapOk F t kt et sh z = true) (hP : P = F.P) (hr : res f (· = d) (.mpl sh kt et ok z m x)) : o.wp P a w (After F nt S L w0 M0 f o.dst d) Q := by
  subst hP
  obtain ⟨k1, k2, zv, zd, k3, k4, k5, _⟩ := mapOk_ty hk
  have KK := sh_keyed hl k1
  simp only [res] at hr
  split at hr
  · rename_i b em
    split at hr
    · rename_i kt' et' ks vs hf
      obtain ⟨rfl, rfl, hkey, hr⟩ := hr
      have hfl := keyOk_fl hkey
      have rx := h.opd hx (by cases hd : vd f x <;> rw [hd] at hfl <;> first | rfl | (simp [keyFl, fl1] at hfl))
      obtain ⟨xl, hxl⟩ := sh_key k1 hkey rx
      refine after_own h hp (fun ρ ω hO => ?_)
      have rm := hO.opd hm
      rw [em, repV_of rfl] at rm
      simp only [RepR] at rm
      obtain ⟨hω, n, dm, hn, hown, hks, hmd⟩ := hO.maps b _ _ ks vs (hO.bigM hf) hf
      have hat := MapD.at_ KK hfl rx hxl hmd hks
      have got : ∃ gv, RepC F (fun _ => none) ((mpGet ks vs (vd f x)).getD z) gv ∧ Maps.has dm xl = (mpGet ks vs (vd f x)).isSome ∧ ∃ ps, plainElem F.P (F.ty et') gv = some (dm.atKey xl zd, ps) := by
        rcases hat with ⟨g1, g2⟩ | ⟨v, vv, vd', g1, g2, g3, g4, g5⟩
        · rw [g1, g2]
          exact ⟨zv, k4, rfl, [], by rw [Maps.atKey_of_not_has g2]; exact k5⟩
        · rw [g1, g2]
          exact ⟨vv, g3, rfl, [], by rw [g5]; exact g4⟩
      obtain ⟨gv, q1, q2, ps, q3⟩ := got
      cases ok with
      | false =>
        simp only at hr
        subst hr
        obtain ⟨v, ps', hrun, hv⟩ := hown.lookup KK k2 (k3 w) k5 hxl
        have := plain_inj hv q3
        subst this
        refine ⟨v, RepV.of_pure q1.noMem, ?_⟩
        simp only [execOp, ho, rm, Sem.run_bind, hrun, Result.andThen_ok, Sem.run_pure]
      | true =>
        simp only at hr
        subst hr
        obtain ⟨v, ps', hrun, hv⟩ := hown.look_ok KK k2 (k3 w) k5 hxl
        have := plain_inj hv q3
        subst this
        rw [q2] at hrun
        refine ⟨.tuple #[v, .bool (mpGet ks vs (vd f x)).isSome], RepV.of_pure ?_, ?_⟩
        · simp only [RepC]
          exact ⟨[_, _], rfl, by simp only [RepL, RepC]; exact ⟨_, _, rfl, q1.noMem, _, _, rfl, rfl, rfl⟩⟩
        · simp only [execOp, ho, rm, Sem.run_bind, hrun, Result.andThen_ok, Sem.run_pure]
    · exact hr.elim
  · exact hr.elim
theorem snd_mpu (hl : laidOutB F.P = true) (h : SR F nt S L w0 M0 f M a w) (hd : o.dst = none) {sh : KSh} {kt et : Nat} {z : D} {m x v : Opd} {m' x' v' : Operand} {t : TypeId} (ho : o.op = .mapUpdate t m' x' v') (hm : opdOk F m m' = true) (hx : opdOk F x x' = true) (hv : opdOk F v v' = true)
    (hk : mapOk F t kt et sh z = true) (hP : P = F.P) (hr : resX C f none K (.mpu sh kt et z m x v)) : o.wp P a w (PostX F nt S L w0 M0 f K) Q := by
  subst hP
  obtain ⟨k1, k2, _, _, _, _, _, k6⟩ := mapOk_ty hk
  have KK := sh_keyed hl k1
  simp only [resX] at hr
  obtain ⟨_, hr⟩ := hr
  split at hr
  · rename_i b em
    split at hr
    · rename_i kt' et' ks vs hf
      obtain ⟨rfl, rfl, hroom, hkey, hel, hr⟩ := hr
      have hfl := keyOk_fl hkey
      have rx := h.opd hx (by cases hd : vd f x <;> rw [hd] at hfl <;> first | rfl | (simp [keyFl, fl1] at hfl))
      have rv := h.opd hv (by cases hd : vd f v <;> rw [hd] at hel <;> first | rfl | (cases z <;> simp [elOkD] at hel))
      obtain ⟨xl, hxl⟩ := sh_key k1 hkey rx
      obtain ⟨rv0, vdt, hvd⟩ := k6 M _ _ hel rv
      obtain ⟨ρ, ω, hO⟩ := h.own
      have rm := hO.opd hm
      rw [em, repV_of rfl] at rm
      simp only [RepR] at rm
      obtain ⟨hω, n, dm, hn, hown, hks, hmd⟩ := hO.maps b _ _ ks vs (hO.bigM hf) hf
      obtain ⟨w', hrun, hown', es, clock, es', clock', hbk, hw'⟩ := hown.store KK k2 (Nat.lt_of_le_of_lt hn hroom) hxl hvd
      refine wp_skip_map ?_ ?_ (w' := w')
      · simp only [execOp, ho, rm, Sem.run_bind, hrun, Result.andThen_ok, Sem.run_pure]
      · rw [hd]
        refine ⟨_, _, M, hr, ?_⟩
        refine h.mapPut hO hf hw' ⟨n + 1, _, by simp; omega, hown', ?_, dm, _, xl, _, vdt, hmd, rfl, key_flat hfl rx, hxl, rv0, hvd⟩
        intro k hk
        rcases List.mem_cons.1 hk with rfl | hk
        · exact hfl
        · exact hks k hk
    · exact hr.elim
  · exact hr.elim
end
end Go.Gv

namespace Go.Gv
open Go.RowKit
section
variable {P : Program} {F : Fid} {nt : Nat} {S : Nat → Prop} {L : Nat → Option Loc} {w0 : World} {M0 : Mem} {f : Nat → D} {M : Mem} {a : Act} {w : World} {o : Oper} {d : D} {Q : Exit → Act → World → Prop}
def scalOk (P : Program) (c t : Nat) : Bool := tyS P t 1 false && match P.underlying t with
  | some (.int _) => c == 0
  | some .bool => c == 1
  | some .string => c == 2
  | _ => false
def flds (P : Program) : Nat → List Nat → List Field → Bool
  | _, [], [] => true
  | i, c :: cs, fl :: fs => fl.offset == i && !(fl.name == "_") && scalOk P c fl.type && flds P (i + 1) cs fs
  | _, _, _ => false
theorem scalOk9 {P : Program} {t : Nat} : scalOk P 9 t = false := by
  unfold scalOk
  split <;> simp
theorem flds9 {P : Program} {i : Nat} {fs : List Field} : flds P i [9] fs = false := by
  cases fs <;> simp [flds, scalOk9]
theorem scalOk8' {P : Program} {t : Nat} : scalOk P 8 t = false := by
  unfold scalOk
  split <;> simp
theorem flds8 {P : Program} {i : Nat} {fs : List Field} : flds P i [8] fs = false := by
  cases fs <;> simp [flds, scalOk8']
def eqOk (P : Program) (t : Nat) (ks : List Nat) : Bool := match P.underlying t with
  | some .bool => ks == []
  | some (.slice _) => ks == [9]
  | some (.pointer _) => ks == [8]
  | some (.struct fs) => !(ks == []) && !P.stoodInHeld t && !P.eqGuardType P.depth t && flds P 0 ks fs.toList
  | _ => false
theorem flatEq_cons {c : Nat} {ks : List Nat} {x y : D} {xs ys : List D} {r : Bool} (h : flatEq (c :: ks) (x :: xs) (y :: ys) = some r) : ∃ r1 r2, flatEq [c] [x] [y] = some r1 ∧ flatEq ks xs ys = some r2 ∧ r = (r1 && r2) := by
  unfold flatEq at h
  split at h
  · rename_i e _ _; cases e
  · rename_i ks' k a xs' k' b ys' e0 e1 e2
    simp only [List.cons.injEq] at e0 e1 e2
    obtain ⟨rfl, rfl⟩ := e0; obtain ⟨rfl, rfl⟩ := e1; obtain ⟨rfl, rfl⟩ := e2
    split at h
    · rename_i hk
      subst hk
      rw [Option.map_eq_some_iff] at h
      obtain ⟨r2, h1, rfl⟩ := h
      exact ⟨decide (a = b), r2, by simp [flatEq], h1, rfl⟩
    · cases h
  · rename_i ks' a xs' b ys' e0 e1 e2
    simp only [List.cons.injEq] at e0 e1 e2
    obtain ⟨rfl, rfl⟩ := e0; obtain ⟨rfl, rfl⟩ := e1; obtain ⟨rfl, rfl⟩ := e2
    rw [Option.map_eq_some_iff] at h
    obtain ⟨r2, h1, rfl⟩ := h
    exact ⟨a == b, r2, by simp [flatEq], h1, rfl⟩
  · rename_i ks' a xs' b ys' e0 e1 e2
    simp only [List.cons.injEq] at e0 e1 e2
    obtain ⟨rfl, rfl⟩ := e0; obtain ⟨rfl, rfl⟩ := e1; obtain ⟨rfl, rfl⟩ := e2
    rw [Option.map_eq_some_iff] at h
    obtain ⟨r2, h1, rfl⟩ := h
    exact ⟨decide (a = b), r2, by simp [flatEq], h1, rfl⟩
  · cases h
theorem bytes_beq (a b : List UInt8) : ((⟨a.toArray⟩ : ByteArray) == ⟨b.toArray⟩) = decide (a = b) := by
  have e : ((⟨a.toArray⟩ : ByteArray) == ⟨b.toArray⟩) = (a.toArray == b.toArray) := rfl
  rw [e, Bool.eq_iff_iff]; simp
theorem run_scal {t c : Nat} (hk : scalOk P c t = true) {x y : D} {u v : Value} (hu : RepC F M x u) (hv : RepC F M y v) {r : Bool} (he : flatEq [c] [x] [y] = some r) (n : Nat) : (Op.equalIn (n + 1) t u v).run P w = .ok r w := by
  simp only [scalOk, Bool.and_eq_true] at hk
  obtain ⟨_, hk⟩ := hk
  split at hk
  · rename_i k e
    simp only [beq_iff_eq] at hk
    subst hk
    cases x <;> cases y <;> simp only [flatEq, reduceCtorEq] at he
    split at he
    · rename_i hkk
      subst hkk
      simp only [RepC] at hu hv
      subst hu; subst hv
      simp only [Option.map_some, Bool.and_true, Option.some.injEq] at he
      subst he
      simp only [Op.equalIn, Sem.run_bind, run_underlying e, Result.andThen_ok, if_true, Sem.run_pure]
      congr 1
    · cases he
  · rename_i e
    simp only [beq_iff_eq] at hk
    subst hk
    cases x <;> cases y <;> simp only [flatEq, reduceCtorEq] at he
    simp only [RepC] at hu hv
    subst hu; subst hv
    simp only [Option.map_some, Bool.and_true, Option.some.injEq] at he
    subst he
    simp only [Op.equalIn, Sem.run_bind, run_underlying e, Result.andThen_ok, Sem.run_pure]
  · rename_i e
    simp only [beq_iff_eq] at hk
    subst hk
    cases x <;> cases y <;> simp only [flatEq, reduceCtorEq] at he
    simp only [RepC] at hu hv
    subst hu; subst hv
    simp only [Option.map_some, Bool.and_true, Option.some.injEq] at he
    subst he
    simp only [Op.equalIn, Sem.run_bind, run_underlying e, Result.andThen_ok, Sem.run_pure]
    congr 1
    exact bytes_beq _ _
  · cases hk
theorem part_scal {t c : Nat} (hk : scalOk P c t = true) {vs : List Value} {j : Nat} {v : Value} (hv : vs[j]? = some v) : (part t vs.toArray j).run P w = .ok v w := by
  simp only [scalOk, Bool.and_eq_true] at hk
  have hlt := (List.getElem?_eq_some_iff.1 hv).1
  have := run_part (P := P) (w := w) hk.1 (vs := vs) (off := j) (by omega)
  rw [this]
  simp only [Bool.false_eq_true, if_false]
  congr 1
  rw [List.drop_eq_getElem_cons hlt]
  simp only [List.headD_cons]
  exact (List.getElem?_eq_some_iff.1 hv).2
def eqBody (n : Nat) (us vs : Array Value) : Field → Option Bool × Unit → Sem (ForInStep (Option Bool × Unit)) := fun f _ =>
              if f.name ≠ "_" then do
                let __do_lift ← part f.type us f.offset
                let __do_lift_1 ← part f.type vs f.offset
                let __do_lift ← Op.equalIn n f.type __do_lift __do_lift_1
                if (!__do_lift) = true then pure (ForInStep.done (some false, ()))
                  else pure (ForInStep.yield (none, ()))
              else pure (ForInStep.yield (none, ()))
theorem run_flds : ∀ (ks : List Nat) (fs : List Field) (j n : Nat) (xs ys : List D) (us vs : List Value), flds P j ks fs = true → RepL F M xs (us.drop j) → RepL F M ys (vs.drop j) → ∀ {r : Bool}, flatEq ks xs ys = some r →
    (forIn fs (none, ()) (eqBody (n + 1) us.toArray vs.toArray)).run P w = .ok (if r then none else some false, ()) w
  | [], [], j, n, xs, ys, us, vs, _, _, _, r, he => by
    cases xs <;> cases ys <;> simp [flatEq] at he
    subst he
    rfl
  | c :: ks, fl :: fs, j, n, xs, ys, us, vs, hk, hx, hy, r, he => by
    simp only [flds, Bool.and_eq_true, beq_iff_eq, Bool.not_eq_true', beq_eq_false_iff_ne] at hk
    obtain ⟨⟨⟨rfl, hn⟩, hs⟩, hk⟩ := hk
    cases xs with
    | nil => cases ys <;> cases c <;> simp [flatEq] at he
    | cons x xs =>
      cases ys with
      | nil => cases x <;> (rcases c with _ | _ | _ | c <;> simp [flatEq] at he)
      | cons y ys =>
        obtain ⟨r1, r2, h1, h2, rfl⟩ := flatEq_cons he
        simp only [RepL] at hx hy
        obtain ⟨u, us', e1, ru, rus⟩ := hx
        obtain ⟨v, vs', e2, rv, rvs⟩ := hy
        have gu : us[fl.offset]? = some u := by
          have := congrArg (fun l => l[0]?) e1
          simpa using this
        have gv : vs[fl.offset]? = some v := by
          have := congrArg (fun l => l[0]?) e2
          simpa using this
        have du : us.drop (fl.offset + 1) = us' := by rw [← List.drop_drop, e1]; rfl
        have dv : vs.drop (fl.offset + 1) = vs' := by rw [← List.drop_drop, e2]; rfl
        rw [List.forIn_cons]
        simp only [eqBody, ne_eq, hn, not_false_eq_true, if_true, Sem.run_bind, part_scal hs gu, part_scal hs gv, Result.andThen_ok, run_scal hs ru rv h1]
        cases r1 with
        | false => simp
        | true =>
          simp only [Bool.not_true, Bool.false_eq_true, if_false, Sem.run_pure, Result.andThen_ok, Bool.true_and]
          exact run_flds ks fs (fl.offset + 1) n xs ys us vs hk (by rw [du]; exact rus) (by rw [dv]; exact rvs) h2
theorem equal_deep (t : TypeId) (u v : Value) : ∃ m n, m = n + 1 ∧ Op.equal t u v = Op.equalIn (m + 1) t u v := ⟨9999, 9998, rfl, rfl⟩
theorem snd_beq (h : SR F nt S L w0 M0 f M a w) (hp : putOk nt f o.dst) {neg : Bool} {ks : List Nat} {x y : Opd} {x' y' : Operand} {t t' : TypeId} (ho : o.op = .binOp (if neg then .neq else .eql) t x' y' t') (hx : opdOk F x x' = true) (hy : opdOk F y y' = true) (hk : eqOk P t ks = true)
    (hr : res f (· = d) (.beq neg ks x y)) : o.wp P a w (After F nt S L w0 M0 f o.dst d) Q := by
  simp only [res] at hr
  have fin : ∀ (u v : Value) (r : Bool), a.eval x' = u → a.eval y' = v → (eqGuard (if neg then .neq else .eql) t x' y' u v).run P w = .ok () w → (binOp (if neg then .neq else .eql) t u v).run P w = .ok (.bool (r != neg)) w → d = .bool (r != neg) → o.wp P a w (After F nt S L w0 M0 f o.dst d) Q := by
    rintro u v r e1 e2 hg h3 rfl
    refine after_val h hp (v := .bool (r != neg)) rfl ?_
    simp only [execOp, ho, e1, e2, hg, Sem.run_bind, Sem.run_pure, Result.andThen_ok, h3]
  split at hr
  · rename_i b c ex ey
    obtain ⟨rfl, hr⟩ := hr
    have h1 := h.opd hx (by simp [ex, isV])
    rw [ex] at h1
    have h2 := h.opd hy (by simp [ey, isV])
    rw [ey] at h2
    simp only [RepC] at h1 h2
    unfold eqOk at hk
    split at hk
    · rename_i e
      refine fin _ _ (b == c) h1 h2 (by cases neg <;> simp [eqGuard]) ?_ hr.symm
      have h3 : (Op.equal t (.bool b) (.bool c)).run P w = .ok (b == c) w := by
        obtain ⟨m, n, hm, this⟩ := equal_deep t (.bool b) (.bool c)
        rw [this]
        simp only [Op.equalIn, Sem.run_bind, run_underlying e, Result.andThen_ok, Sem.run_pure]
      cases neg <;> simp [binOp, h3]
    · simp at hk
    · simp at hk
    · simp at hk
    · cases hk
  · rename_i xs ys ex ey
    obtain ⟨hks, hr⟩ := hr
    split at hr
    · rename_i r he
      have h1 := h.opd hx (by simp [ex, isV])
      rw [ex] at h1
      have h2 := h.opd hy (by simp [ey, isV])
      rw [ey] at h2
      simp only [RepC] at h1 h2
      obtain ⟨us, e1, r1⟩ := h1
      obtain ⟨vs, e2, r2⟩ := h2
      unfold eqOk at hk
      split at hk
      · simp only [beq_iff_eq] at hk
        exact absurd hk hks
      · simp only [beq_iff_eq] at hk
        subst hk
        cases xs <;> cases ys <;> simp [flatEq] at he
      · simp only [beq_iff_eq] at hk
        subst hk
        cases xs <;> cases ys <;> simp [flatEq] at he
      · rename_i fs e
        simp only [Bool.and_eq_true, Bool.not_eq_true'] at hk
        obtain ⟨⟨⟨_, hst⟩, hgu⟩, hk⟩ := hk
        refine fin _ _ r e1 e2 (run_eqGuard_agg _ _ t x' y' _ _ hgu) ?_ hr.symm
        have key := fun n => run_flds (P := P) (w := w) ks fs.toList 0 n xs ys us vs hk (by simpa using r1) (by simpa using r2) he
        have h3 : (Op.equal t (.agg us.toArray) (.agg vs.toArray)).run P w = .ok r w := by
          obtain ⟨m, n, hm, this⟩ := equal_deep t (.agg us.toArray) (.agg vs.toArray)
          have key := key n
          rw [← hm] at key
          rw [this]
          simp only [Op.equalIn, Sem.run_bind, run_underlying e, Result.andThen_ok, run_program, hst, Bool.false_eq_true, if_false]
          rw [← Array.forIn_toList]
          unfold eqBody at key
          erw [key]
          cases r <;> simp
        cases neg <;> simp [binOp, h3]
      · cases hk
    · exact hr.elim
  · rename_i ex ey
    obtain ⟨rfl, hr⟩ := hr
    have h1 := h.opd hx (by simp [ex, isV])
    rw [ex] at h1
    have h2 := h.opd hy (by simp [ey, isV])
    rw [ey] at h2
    simp only [RepC] at h1 h2
    unfold eqOk at hk
    split at hk
    · simp at hk
    · rename_i e
      refine fin _ _ true h1 h2 (by cases neg <;> simp [eqGuard]) ?_ (by rw [← hr]; cases neg <;> rfl)
      have h3 : (Op.equal t (.slice none 0 0) (.slice none 0 0)).run P w = .ok true w := by
        obtain ⟨m, n, hm, this⟩ := equal_deep t (.slice none 0 0) (.slice none 0 0)
        rw [this]
        simp only [Op.equalIn, Sem.run_bind, run_underlying e, Result.andThen_ok, Sem.run_pure]
        rfl
      cases neg <;> simp [binOp, h3]
    · simp at hk
    · simp [flds9] at hk
    · cases hk
  · rename_i es ex ey
    obtain ⟨rfl, hr1, hr2⟩ := hr
    have h1 := h.opd hx (by simp [ex, isV])
    rw [ex] at h1
    have h2 := h.opd hy (by simp [ey, isV])
    rw [ey] at h2
    simp only [RepC] at h1 h2
    obtain ⟨A, cap, vs, sz, e1, _, _, _, hA⟩ := h1
    rcases Nat.eq_zero_or_pos es.length with h0 | hpos
    · have hd := hr2 h0
      subst hd
      unfold eqOk at hk
      split at hk
      · simp at hk
      · rename_i e
        obtain ⟨r, hrr⟩ : ∃ r, (Op.equal t (.slice A es.length cap) (.slice none 0 0)).run P w = .ok r w := by
          obtain ⟨m, n, hm, this⟩ := equal_deep t (.slice A es.length cap) (.slice none 0 0)
          rw [this]
          cases A <;> simp only [Op.equalIn, Sem.run_bind, run_underlying e, Result.andThen_ok, Sem.run_pure]
          · exact ⟨_, rfl⟩
          · exact ⟨_, rfl⟩
        refine after_val h hp (v := .bool (r != neg)) (by simp only [RepC]; exact ⟨_, rfl⟩) ?_
        have hg : (eqGuard (if neg then .neq else .eql) t x' y' (.slice A es.length cap) (.slice none 0 0)).run P w = .ok () w := by cases neg <;> simp [eqGuard]
        have hbn : (binOp (if neg then .neq else .eql) t (.slice A es.length cap) (.slice none 0 0)).run P w = .ok (.bool (r != neg)) w := by cases neg <;> simp [binOp, hrr]
        simp only [execOp, ho, e1, h2, hg, Sem.run_bind, Sem.run_pure, Result.andThen_ok, hbn]
      · simp at hk
      · simp [flds9] at hk
      · cases hk
    have hr := hr1 hpos
    obtain ⟨ad, rfl, _⟩ := hA hpos
    unfold eqOk at hk
    split at hk
    · simp at hk
    · rename_i e
      refine fin _ _ false e1 h2 (by cases neg <;> simp [eqGuard]) ?_ (by rw [← hr]; cases neg <;> rfl)
      have h3 : (Op.equal t (.slice (some ad) es.length cap) (.slice none 0 0)).run P w = .ok false w := by
        obtain ⟨m, n, hm, this⟩ := equal_deep t (.slice (some ad) es.length cap) (.slice none 0 0)
        rw [this]
        simp only [Op.equalIn, Sem.run_bind, run_underlying e, Result.andThen_ok, Sem.run_pure]
      cases neg <;> simp [binOp, h3]
    · simp at hk
    · simp [flds9] at hk
    · cases hk
  · rename_i ex ey
    obtain ⟨rfl, hr⟩ := hr
    have h1 := h.opd hx (by simp [ex, isV])
    rw [ex] at h1
    have h2 := h.opd hy (by simp [ey, isV])
    rw [ey] at h2
    simp only [RepC] at h1 h2
    unfold eqOk at hk
    split at hk
    · simp at hk
    · simp at hk
    · rename_i e
      refine fin _ _ true h1 h2 (by cases neg <;> simp [eqGuard]) ?_ (by rw [← hr]; cases neg <;> rfl)
      have h3 : (Op.equal t (.pointer none) (.pointer none)).run P w = .ok true w := by
        obtain ⟨m, n, hm, this⟩ := equal_deep t (.pointer none) (.pointer none)
        rw [this]
        simp only [Op.equalIn, Sem.run_bind, run_underlying e, Result.andThen_ok, Sem.run_pure]
        rfl
      cases neg <;> simp [binOp, h3]
    · simp [flds8] at hk
    · cases hk
  · rename_i ds ex ey
    obtain ⟨rfl, hr⟩ := hr
    have h1 := h.opd hx (by simp [ex, isV])
    rw [ex] at h1
    have h2 := h.opd hy (by simp [ey, isV])
    rw [ey] at h2
    simp only [RepC] at h1 h2
    obtain ⟨ad, vs, e1, _, _⟩ := h1
    unfold eqOk at hk
    split at hk
    · simp at hk
    · simp at hk
    · rename_i e
      refine fin _ _ false e1 h2 (by cases neg <;> simp [eqGuard]) ?_ (by rw [← hr]; cases neg <;> rfl)
      have h3 : (Op.equal t (.pointer (some ad)) (.pointer none)).run P w = .ok false w := by
        obtain ⟨m, n, hm, this⟩ := equal_deep t (.pointer (some ad)) (.pointer none)
        rw [this]
        simp only [Op.equalIn, Sem.run_bind, run_underlying e, Result.andThen_ok, Sem.run_pure]
      cases neg <;> simp [binOp, h3]
    · simp [flds8] at hk
    · cases hk
  · exact hr.elim
def natOk (P : Program) (fi : Nat) (nm : String) : Bool := match P.funcs[fi]? with
  | some fn => fn.name == nm && fn.body.isNone && (Extern.allNextRows.lookup fn.origin).isNone
  | none => false
theorem natOk_run {fi : Nat} {nm : String} {e : Array Value → Sem Value} (hk : natOk P fi nm = true) (h0 : (nm == "runtime.NumGoroutine") = false) (h1 : Extern.allNextRows.lookup nm = none)
    (h2 : ∀ fn : Func, fn.name = nm → Extern.find fn = some e) (args : Array Value) (w : World) : (callFunc fi args).run P w = ((e args).run P w).andThen fun v w' => .ok (.value v) w' := by
  unfold natOk at hk
  split at hk
  · rename_i fn hf
    simp only [Bool.and_eq_true, beq_iff_eq] at hk
    obtain ⟨⟨h3, h4⟩, h5⟩ := hk
    subst h3
    refine run_callFunc_extern hf h0 h4 ?_ (h2 fn rfl) args w
    have h6 : Extern.allNextRows.lookup fn.origin = none := by simpa using h5
    simp [Extern.findNext, h1, h6]
  · cases hk
theorem find_add (fn : Func) (h : fn.name = "math/bits.Add64") : Extern.find fn = some add64Entry := by
  have h1 : Extern.allGenericRows.lookup "math/bits.Add64" = none := by kernel_rfl
  have h2 : Extern.allTypedRows.lookup "math/bits.Add64" = none := by kernel_rfl
  have h3 : Extern.allRows.lookup "math/bits.Add64" = some add64Entry := by kernel_rfl
  simp [Extern.find, h, h1, h2, h3]
def sub64E : Array Value → Sem Value := fun args => do
  let (x, y, b) ← Extern.MathBitsCarry.three "Sub64" args
  pure (Extern.MathBitsCarry.pair ((x + Extern.MathBitsCarry.m64 - y - b) % Extern.MathBitsCarry.m64) (if x < y + b then 1 else 0))
theorem find_sub (fn : Func) (h : fn.name = "math/bits.Sub64") : Extern.find fn = some sub64E := by
  have h1 : Extern.allGenericRows.lookup "math/bits.Sub64" = none := by kernel_rfl
  have h2 : Extern.allTypedRows.lookup "math/bits.Sub64" = none := by kernel_rfl
  have h3 : Extern.allRows.lookup "math/bits.Sub64" = some sub64E := by kernel_rfl
  simp [Extern.find, h, h1, h2, h3]
theorem run_sub64E (x y c : Int) (hx : 0 ≤ x) (hx2 : x < 18446744073709551616) (hy : 0 ≤ y) (hy2 : y < 18446744073709551616) (hc0 : 0 ≤ c) (hc : c ≤ 1) (w : World) :
    (sub64E #[.int .u64 x, .int .u64 y, .int .u64 c]).run P w = .ok (.tuple #[.int .u64 ((x - y - c) % 18446744073709551616), .int .u64 (if x < y + c then 1 else 0)]) w := by
  have key : ∀ k : Nat, k ≤ 1 → (sub64E #[.int .u64 x, .int .u64 y, .int .u64 (k : Int)]).run P w =
      .ok (Extern.MathBitsCarry.pair ((x.toNat + Extern.MathBitsCarry.m64 - y.toNat - k) % Extern.MathBitsCarry.m64) (if x.toNat < y.toNat + k then 1 else 0)) w := by
    intro k hk
    have : k = 0 ∨ k = 1 := by omega
    rcases this with rfl | rfl <;> rfl
  obtain ⟨k, rfl⟩ := Int.eq_ofNat_of_zero_le hc0
  rw [key k (by omega)]
  obtain ⟨X, rfl⟩ := Int.eq_ofNat_of_zero_le hx
  obtain ⟨Y, rfl⟩ := Int.eq_ofNat_of_zero_le hy
  have e1 : (((X + 18446744073709551616 - Y - k) % 18446744073709551616 : Nat) : Int) = ((X : Int) - Y - k) % 18446744073709551616 := by omega
  have e2 : ((if X < Y + k then 1 else 0 : Nat) : Int) = if (X : Int) < Y + k then 1 else 0 := by split <;> split <;> omega
  simp only [Extern.MathBitsCarry.pair, Extern.MathBitsCarry.m64, Int.toNat_natCast]
  rw [← e1, ← e2]
  rfl
theorem snd_add64 (h : SR F nt S L w0 M0 f M a w) (hp : putOk nt f o.dst) {x y c : Opd} {x' y' c' : Operand} {fi : Nat} {ts : Array TypeId} (ho : o.op = .call { callee := .value (.func fi), args := #[x', y', c'], argTypes := ts }) (hn : natOk P fi "math/bits.Add64" = true)
    (hx : opdOk F x x' = true) (hy : opdOk F y y' = true) (hc : opdOk F c c' = true) (hr : res f (· = d) (.add64 x y c)) : o.wp P a w (After F nt S L w0 M0 f o.dst d) Q := by
  simp only [res] at hr
  split at hr
  · rename_i a1 b1 k1 ex ey ec
    obtain ⟨h1, h2, h3, h4, h5, h6, rfl⟩ := hr
    have e1 := h.opd hx (by simp [ex, isV])
    have e2 := h.opd hy (by simp [ey, isV])
    have e3 := h.opd hc (by simp [ec, isV])
    rw [ex] at e1; rw [ey] at e2; rw [ec] at e3
    simp only [RepC] at e1 e2 e3
    refine after_val h hp (v := .tuple #[.int .u64 ((a1 + b1 + k1) % 18446744073709551616), .int .u64 ((a1 + b1 + k1) / 18446744073709551616)]) ?_ ?_
    · simp only [RepC]
      exact ⟨[_, _], rfl, by simp [RepL, RepC]⟩
    · have hrun := natOk_run hn (by decide) (by kernel_rfl) (fun fn => find_add fn) #[.int .u64 a1, .int .u64 b1, .int .u64 k1] w
      rw [run_add64 a1 b1 k1 h1 h3 h5 h6] at hrun
      simp only [execOp, ho, resolve, Act.eval, Deferred.ofValue, Sem.run_bind, Sem.run_pure, Result.andThen_ok, invoke]
      rw [show (#[] ++ Array.map a.eval #[x', y', c'] ++ #[]) = #[.int .u64 a1, .int .u64 b1, .int .u64 k1] from by simp [e1, e2, e3]]
      exact hrun
  · exact hr.elim
theorem snd_sub64 (h : SR F nt S L w0 M0 f M a w) (hp : putOk nt f o.dst) {x y c : Opd} {x' y' c' : Operand} {fi : Nat} {ts : Array TypeId} (ho : o.op = .call { callee := .value (.func fi), args := #[x', y', c'], argTypes := ts }) (hn : natOk P fi "math/bits.Sub64" = true)
    (hx : opdOk F x x' = true) (hy : opdOk F y y' = true) (hc : opdOk F c c' = true) (hr : res f (· = d) (.sub64 x y c)) : o.wp P a w (After F nt S L w0 M0 f o.dst d) Q := by
  simp only [res] at hr
  split at hr
  · rename_i a1 b1 k1 ex ey ec
    obtain ⟨h1, h2, h3, h4, h5, h6, rfl⟩ := hr
    have e1 := h.opd hx (by simp [ex, isV])
    have e2 := h.opd hy (by simp [ey, isV])
    have e3 := h.opd hc (by simp [ec, isV])
    rw [ex] at e1; rw [ey] at e2; rw [ec] at e3
    simp only [RepC] at e1 e2 e3
    refine after_val h hp (v := .tuple #[.int .u64 ((a1 - b1 - k1) % 18446744073709551616), .int .u64 (if a1 < b1 + k1 then 1 else 0)]) ?_ ?_
    · simp only [RepC]
      exact ⟨[_, _], rfl, by simp [RepL, RepC]⟩
    · have hrun := natOk_run hn (by decide) (by kernel_rfl) (fun fn => find_sub fn) #[.int .u64 a1, .int .u64 b1, .int .u64 k1] w
      rw [run_sub64E a1 b1 k1 h1 h2 h3 h4 h5 h6] at hrun
      simp only [execOp, ho, resolve, Act.eval, Deferred.ofValue, Sem.run_bind, Sem.run_pure, Result.andThen_ok, invoke]
      rw [show (#[] ++ Array.map a.eval #[x', y', c'] ++ #[]) = #[.int .u64 a1, .int .u64 b1, .int .u64 k1] from by simp [e1, e2, e3]]
      exact hrun
  · exact hr.elim
theorem absW_pure {f : Nat → D} {d : D} {K : List D → List Nat → Prop} (h : ∀ c ∈ cellsP d, isC1 c = true) (hk : K (cellsP d) []) : absW f d [] K := by
  cases d <;> first
    | (simp only [absW, nilC, abs1W, if_true, true_or, true_and]; exact ⟨h, hk⟩)
    | (have h0 := h _ (List.mem_singleton.2 rfl); simp [isC1] at h0; done)
    | (have h0 := h _ (List.mem_singleton.2 rfl); simp only [absW, nilC, abs1W, if_true, true_or, true_and]; exact ⟨h0, hk⟩)
theorem partsW_pure {f : Nat → D} {sz len : Nat} : ∀ (ps : List (Nat × Opd)) (es : List (List D)) (bs : List Nat), es.length = len → (∀ p ∈ ps, p.1 < len ∧ (cellsP (vd f p.2)).length = sz ∧ ∀ c ∈ cellsP (vd f p.2), isC1 c = true) →
    partsW f sz [] ps es bs (fun es' bs' => es' = fillR f ps es ∧ bs' = bs)
  | [], es, bs, _, _ => ⟨rfl, rfl⟩
  | (i, x) :: ps, es, bs, hl, h => by
    obtain ⟨h1, h2, h3⟩ := h (i, x) (by simp)
    simp only [partsW]
    refine ⟨by omega, absW_pure h3 ⟨h2, ?_⟩⟩
    simp only [List.append_nil, fillR]
    exact partsW_pure ps _ bs (by simpa using hl) fun p hp => h p (by simp [hp])
section
variable {P : Program} {F : Fid} {nt : Nat} {S : Nat → Prop} {L : Nat → Option Loc} {w0 : World} {M0 : Mem} {f : Nat → D} {M : Mem} {a : Act} {w : World} {o : Oper} {d : D} {Q : Exit → Act → World → Prop}
theorem snd_blsF (h : SR F nt S L w0 M0 f M a w) (hp : putOk nt f o.dst) {sz len : Nat} {zs : List D} {parts : List (Nat × Opd)} {parts' : Array (Nat × Operand)} {T : TypeId} (ho : o.op = .buildSlice T len parts')
    (hk : blsOk P F T sz len zs parts parts'.toList = true) (hr : res f (· = d) (.blsF sz len zs parts)) : o.wp P a w (After F nt S L w0 M0 f o.dst d) Q := by
  simp only [res] at hr
  obtain ⟨hr1, hr0, hr2, rfl⟩ := hr
  unfold blsOk at hk
  split at hk
  · rename_i e hu
    simp only [Bool.and_eq_true, beq_iff_eq, List.all_eq_true, decide_eq_true_eq] at hk
    obtain ⟨⟨⟨⟨⟨⟨h1, h2⟩, h3⟩, h4⟩, h5⟩, h6⟩, h7⟩ := hk
    obtain ⟨z, i, hi, hiz, hz, hzs, hzc⟩ := zeroOk_z h3
    obtain ⟨ρ0, ω0, ho0⟩ := h.own
    have hzl : z.cells.toList.length = sz := by simp [hzs, h2]
    let c0 : Array Value := (Array.range (len * sz)).map ((if len * sz = 0 then #[] else z.cells)[· % (if len * sz = 0 then #[] else z.cells).size]!)
    have hc0 : c0.toList = (List.replicate len z.cells.toList).flatten := by
      by_cases hl : len * sz = 0
      · have : len = 0 := by rcases Nat.mul_eq_zero.1 hl with h | h; exact h; omega
        subst this
        simp [c0]
      · simp only [c0, if_neg hl]
        exact range_cells z.cells len sz (by omega)
    have hA : AbsRows F L (NewB S w0) f M a w sz len (List.replicate len zs) [] c0.toList (fun _ _ => none) := by
      refine ⟨by simp, by rw [hc0]; simp only [List.length_flatten, List.map_replicate, hzl, List.sum_replicate_nat], fun e he => by rw [(List.mem_replicate.1 he).2, h2], fun i' r off c' hi' hr => ?_, fun i off c e => (by cases e), fun _ i off i' off' c e => (by cases e)⟩
      obtain ⟨hlt, hr⟩ := rep_rows hi' hr
      have hof : off < sz := by have := (List.getElem?_eq_some_iff.1 hr).1; omega
      obtain ⟨u0, hu'⟩ : ∃ u0, z.cells.toList[off]? = some u0 := ⟨_, List.getElem?_eq_getElem (by omega)⟩
      refine ⟨_, ?_, hzc off c' _ hr hu'⟩
      rw [hc0, flatten_get _ _ _ (by rw [hzl]; exact rowIdx hlt hof), hzl, Nat.mul_comm i' sz, Nat.mul_add_mod, Nat.mod_eq_of_lt hof]
      exact hu'
    have hpw := partsW_pure (f := f) (sz := sz) (len := len) parts (List.replicate len zs) [] (by simp) hr1
    obtain ⟨esF, bsF, cellsF, srcF, ⟨rfl, rfl⟩, g4, g5⟩ := fill_parts ho0 parts parts'.toList _ _ c0 _ _ h6 (fun p hp => h7 p hp) hA hpw
    have hrun : (Instr.buildSlice T len (parts'.map fun (i, x) => (i, a.eval x))).run P w = .ok (.slice (some ⟨w.heap.size, 0, none⟩) len len) (w.alloc (.cells cellsF.toList.toArray e)) := by
      have hsm : ¬ len * sz > 2 ^ 24 := by omega
      have g4' : Instr.fill (fun i => some (i * sz, sz)) c0 (parts'.map fun (i, x) => (i, a.eval x)).toList = some cellsF := by
        rw [Array.toList_map]; exact g4
      simp only [Instr.buildSlice, Sem.run_bind, run_underlying hu, Result.andThen_ok, run_size h1, hsm, if_false]
      by_cases hl : len * sz = 0
      · simp only [c0, hl, if_true] at g4'
        simp only [hl, if_true, Sem.run_bind, Sem.run_pure, Result.andThen_ok, g4', newRow, run_newObj, World.alloc_eq, Array.toArray_toList]
      · simp only [c0, hl, if_false] at g4'
        simp only [hl, if_false, Sem.run_bind, Sem.run_pure, hz, Result.andThen_ok, g4', newRow, run_newObj, World.alloc_eq, Array.toArray_toList]
    have hle := (alloc_holds h.holds cellsF.toList e).2.1
    refine after_new (T := e) h (vs := cellsF.toList) hp (v := .slice (some ⟨w.heap.size, 0, none⟩) len len) (fun ρ ω hO => ?_) (by simp only [execOp, ho, Sem.run_bind, hrun, Result.andThen_ok, Sem.run_pure])
    refine RepV.of_pure ?_
    simp only [RepC, g5.n]
    refine ⟨_, _, cellsF.toList, sz, rfl, Nat.le_refl _, RepLL.of_rows g5.u (by rw [g5.vl, g5.n]) (fun i' r off c' e1 e2 => ?_), g5.u, fun _ => ⟨_, rfl, by simpa using Mem.put_at M w.heap.size 0 cellsF.toList⟩⟩
    obtain ⟨u, k1, k2⟩ := g5.cells i' r off c' e1 e2
    refine ⟨u, k1, ?_⟩
    have hc1 := hr2 r (List.mem_of_getElem? e1) c' (List.mem_of_getElem? e2)
    rcases k2 with ⟨_, k2⟩ | ⟨n, rfl, _⟩ | ⟨_, _, _, _, rfl, _⟩
    · exact RepC.mono hle _ _ k2
    · simp [isC1] at hc1
    · simp [isC1] at hc1
  · cases hk
theorem snd_blsX (h : SR F nt S L w0 M0 f M a w) (hp : putOk nt f o.dst) {sz len : Nat} {zs : List D} {parts : List (Nat × Opd)} {parts' : Array (Nat × Operand)} {T : TypeId} (ho : o.op = .buildSlice T len parts')
    (hk : blsOk P F T sz len zs parts parts'.toList = true) (hr : res f (· = d) (.blsX sz len zs parts)) : o.wp P a w (After F nt S L w0 M0 f o.dst d) Q := by
  simp only [res] at hr
  obtain ⟨hr0, hr1, rfl⟩ := hr
  unfold blsOk at hk
  split at hk
  · rename_i e hu
    simp only [Bool.and_eq_true, beq_iff_eq, List.all_eq_true, decide_eq_true_eq] at hk
    obtain ⟨⟨⟨⟨⟨⟨h1, h2⟩, h3⟩, h4⟩, h5⟩, h6⟩, h7⟩ := hk
    obtain ⟨z, i, hi, hiz, hz, hzs, hzc⟩ := zeroOk_z h3
    obtain ⟨ρ0, ω0, ho0⟩ := h.own
    have hzl : z.cells.toList.length = sz := by simp [hzs, h2]
    let c0 : Array Value := (Array.range (len * sz)).map ((if len * sz = 0 then #[] else z.cells)[· % (if len * sz = 0 then #[] else z.cells).size]!)
    have hc0 : c0.toList = (List.replicate len z.cells.toList).flatten := by
      by_cases hl : len * sz = 0
      · have : len = 0 := by rcases Nat.mul_eq_zero.1 hl with h | h; exact h; omega
        subst this
        simp [c0]
      · simp only [c0, if_neg hl]
        exact range_cells z.cells len sz (by omega)
    have hzlen : (List.replicate len zs).flatten.length = len * sz := by simp only [List.length_flatten, List.map_replicate, h2, List.sum_replicate_nat]
    have zero : RL (RepC F M) zs z.cells.toList := by
      refine ⟨by rw [hzl, h2], fun j c u k1 k2 => ?_⟩
      have k3 := hzc j c u k1 k2 (F := F) (L := L) (New := NewB S w0) (f := f) (M := M) (a := a) (w := w)
      have hc1 := List.all_eq_true.1 hr0 c (List.mem_of_getElem? k1)
      rcases k3 with ⟨_, k3⟩ | ⟨n, rfl, _⟩ | ⟨_, _, _, _, rfl, _⟩
      · exact k3
      · simp [isC1] at hc1
      · simp [isC1] at hc1
    have fillOne : ∀ (M' : Mem) (ρ : Pa → Loc), M.le M' → (∀ p ∈ parts, ∀ y, opdOk F p.2 y = true → RepV F M' ρ (vd f p.2) (a.eval y)) →
        ∃ cells, Instr.fill (fun i => some (i * sz, sz)) c0 (parts'.map fun (i, x) => (i, a.eval x)).toList = some cells ∧ RL (RepR F M' ρ) (cellsX f sz len zs parts) cells.toList := by
      intro M' ρ hle hv
      have hzz : RL (RepR F M' ρ) (List.replicate len zs).flatten c0.toList := by
        rw [hc0]
        refine ⟨by rw [hzlen]; simp only [List.length_flatten, List.map_replicate, hzl, List.sum_replicate_nat], fun j c u k1 k2 => ?_⟩
        have hj : j < len * sz := by rw [← hzlen]; exact (List.getElem?_eq_some_iff.1 k1).1
        rw [flatten_get _ _ _ (by rw [h2]; exact hj), h2] at k1
        rw [flatten_get _ _ _ (by rw [hzl]; exact hj), hzl] at k2
        exact RepR.of_pure (RepC.mono hle _ _ (zero.2 _ c u k1 k2))
      refine fill_gen (fun i => some (i * sz, sz)) (parts'.map fun (i, x) => (i, a.eval x)).toList (parts.map fun p => (p.1 * sz, sz, aggOf (vd f p.2))) c0 _ hzz (by simpa using h6.symm) (fun p hp => ?_)
      rw [Array.toList_map, List.zip_map, List.mem_map] at hp
      obtain ⟨⟨q', q⟩, hq, rfl⟩ := hp
      have hq' : (q, q') ∈ parts.zip parts'.toList := by
        obtain ⟨n, hn, e⟩ := List.mem_iff_getElem.1 hq
        simp only [List.length_zip] at hn
        rw [List.getElem_zip] at e
        simp only [Prod.mk.injEq] at e
        rw [List.mem_iff_getElem]
        exact ⟨n, by rw [List.length_zip]; omega, by rw [List.getElem_zip, e.1, e.2]⟩
      obtain ⟨g1, g2⟩ := h7 _ hq'
      obtain ⟨g3, g4⟩ := hr1 q (List.of_mem_zip hq').1
      have hV := hv q (List.of_mem_zip hq').1 q'.2 g1
      have hle2 : q.1 * sz + sz ≤ (List.replicate len zs).flatten.length := by
        rw [hzlen, ← Nat.succ_mul]; exact Nat.mul_le_mul_right _ g3
      simp only at g2
      refine ⟨by simp [g2], ?_, ?_, hle2⟩
      · simp only [Prod.map]
        split at g4
        · rename_i ds ex
          rw [ex] at hV ⊢
          have hV2 := hV.pure rfl
          have := pure_cells hV2 (fun e' => by cases e')
          exact ⟨this.1, fun i d v h1 h2 => RepR.of_pure (this.2 i d v h1 h2)⟩
        · rename_i ds ex
          rw [ex] at hV ⊢
          obtain ⟨vs, e2, r⟩ := hV
          rw [e2]
          exact r
        · exact g4.elim
      · simp only [Prod.map]
        split at g4
        · rename_i ds ex; rw [ex]; exact g4
        · rename_i ds ex; rw [ex]; exact g4
        · exact g4.elim
    obtain ⟨cells, g4, _⟩ := fillOne M ρ0 (Mem.le_refl _) (fun p hp y hy => ho0.opd hy)
    have hrun : (Instr.buildSlice T len (parts'.map fun (i, x) => (i, a.eval x))).run P w = .ok (.slice (some ⟨w.heap.size, 0, none⟩) len len) (w.alloc (.cells cells.toList.toArray e)) := by
      have hsm : ¬ len * sz > 2 ^ 24 := by omega
      simp only [Instr.buildSlice, Sem.run_bind, run_underlying hu, Result.andThen_ok, run_size h1, hsm, if_false]
      by_cases hl : len * sz = 0
      · simp only [c0, hl, if_true] at g4
        simp only [hl, if_true, Sem.run_bind, Sem.run_pure, Result.andThen_ok, g4, newRow, run_newObj, World.alloc_eq, Array.toArray_toList]
      · simp only [c0, hl, if_false] at g4
        simp only [hl, if_false, Sem.run_bind, Sem.run_pure, hz, Result.andThen_ok, g4, newRow, run_newObj, World.alloc_eq, Array.toArray_toList]
    have hle := (alloc_holds h.holds cells.toList e).2.1
    refine after_new (T := e) h (vs := cells.toList) hp (v := .slice (some ⟨w.heap.size, 0, none⟩) len len) (fun ρ ω hO => ?_) (by simp only [execOp, ho, Sem.run_bind, hrun, Result.andThen_ok, Sem.run_pure])
    obtain ⟨cells', g6, g7⟩ := fillOne _ ρ hle (fun p hp y hy => hO.opd hy)
    rw [g4] at g6
    cases g6
    exact ⟨_, _, cells.toList, rfl, ⟨g7.1, g7.2⟩, by simpa using Mem.put_at M w.heap.size 0 cells.toList⟩
  · cases hk
end
def opOk (P : Program) (F : Fid) : NOp → Op → Bool
  | .mov x, .move y => opdOk F x y
  | .mov x, .assign y => opdOk F x y
  | .nck x, .nilCheck y => opdOk F x y
  | .pick c x y, .pick c' x' y' => opdOk F c c' && opdOk F x x' && opdOk F y y'
  | .bin op x y, .binOp op' _ x' y' _ => op == op' && opdOk F x x' && opdOk F y y'
  | .un op x, .unOp op' _ x' => op == op' && opdOk F x x'
  | .conv k x, .convert src dst x' => convOk P k src dst && opdOk F x x'
  | .fld off n ag x, .field t x' i => fldOk P t i off n ag && opdOk F x x'
  | .idxA len sz ag x i, .index t x' i' => idxAOk P t len sz ag && opdOk F x x' && opdOk F i i'
  | .idxS x i, .index t x' i' => strOk P t && opdOk F x x' && opdOk F i i'
  | .ext i x, .extract x' i' => i == i' && opdOk F x x'
  | .fad off x, .fieldAddr t x' i => fadOk P t i off && opdOk F x x'
  | .iadS sz x i, .indexAddr t x' i' => iadSOk P t sz && opdOk F x x' && opdOk F i i'
  | .iadA len sz x i, .indexAddr t x' i' => iadAOk P t len sz && opdOk F x x' && opdOk F i i'
  | .ld n ag x, .load t x' => tyS P t n ag && opdOk F x x'
  | .boxF x, .box _ x' => opdOk F x x'
  | .blsF sz len zs ps, .buildSlice t len' ps' => len == len' && blsOk P F t sz len zs ps ps'.toList
  | .blsX sz len zs ps, .buildSlice t len' ps' => len == len' && blsOk P F t sz len zs ps ps'.toList
  | .bld zs ps, .build t ps' => bldOk P F t zs ps ps'.toList
  | .len x, .call { callee := .builtin .len, args := ⟨[x']⟩, argTypes := ⟨[t]⟩ } => sliceOk P t && opdOk F x x'
  | .lens x, .call { callee := .builtin .len, args := ⟨[x']⟩, argTypes := ⟨[t]⟩ } => strOk P t && opdOk F x x'
  | .mk g xs, .makeFunc (.func fi) first ys => F g == some fi && first.isEmpty && opdsOk F xs ys.toList
  | .slc sz x lo hi, .slice t x' lo' hi' none => slcOk P t sz && opdOk F x x' && optOk F lo lo' && optOk F hi hi'
  | .slS x lo hi, .slice t x' lo' hi' none => strOk P t && opdOk F x x' && optOk F lo lo' && optOk F hi hi'
  | .slA len sz x, .slice t x' none none none => iadAOk P t len sz && opdOk F x x'
  | .cvS x, .convert src dst x' => cvsOk P src dst && opdOk F x x'
  | .mn x y, .call { callee := .builtin .min, args := ⟨[x', y']⟩, argTypes := _ } => opdOk F x x' && opdOk F y y'
  | .mx x y, .call { callee := .builtin .max, args := ⟨[x', y']⟩, argTypes := _ } => opdOk F x x' && opdOk F y y'
  | .beq neg ks x y, .binOp op t x' y' _ => op == (if neg then .neq else .eql) && eqOk P t ks && opdOk F x x' && opdOk F y y'
  | .add64 x y c, .call { callee := .value (.func fi), args := ⟨[x', y', c']⟩, argTypes := _ } => natOk P fi "math/bits.Add64" && opdOk F x x' && opdOk F y y' && opdOk F c c'
  | .sub64 x y c, .call { callee := .value (.func fi), args := ⟨[x', y', c']⟩, argTypes := _ } => natOk P fi "math/bits.Sub64" && opdOk F x x' && opdOk F y y' && opdOk F c c'
  | .mpl sh kt et ok z m x, .lookup t m' x' ok' => ok == ok' && mapOk F t kt et sh z && opdOk F m m' && opdOk F x x'
  | _, _ => false
end
end Go.Gv

namespace Go.Gv
open Go.RowKit
section
variable {C : Nat → List D → D → List D → Prop} {f : Nat → D}
theorem bound_mono {K K' : Nat → Prop} {x : Option Opd} {n : Nat} (h : bound f x n K) (hk : ∀ m, K m → K' m) : bound f x n K' := by
  unfold bound at h ⊢
  split at h
  · exact hk _ h
  · split at h
    · exact ⟨h.1, hk _ h.2⟩
    · exact h.elim
theorem bound_all {K : Nat → Prop} {x : Option Opd} {n : Nat} (h : bound f x n K) : ∃ m, K m ∧ ∀ K', K' m → bound f x n K' := by
  unfold bound at h ⊢
  split at h
  · exact ⟨_, h, fun K' hk => hk⟩
  · split at h
    · exact ⟨_, h.2, fun K' hk => ⟨h.1, hk⟩⟩
    · exact h.elim
theorem res_one {K : D → Prop} {o : NOp} (h : res f K o) : ∃ d, K d ∧ ∀ K' : D → Prop, K' d → res f K' o := by
  cases o with
  | mov x => simp only [res] at h ⊢; exact ⟨_, h.2, fun K' hk => ⟨h.1, hk⟩⟩
  | nck x =>
    simp only [res] at h ⊢
    split at h
    · exact ⟨_, h, fun K' hk => hk⟩
    · exact ⟨_, h, fun K' hk => hk⟩
    · exact ⟨_, h, fun K' hk => hk⟩
    · exact h.elim
  | pick c a b =>
    simp only [res] at h ⊢
    split at h
    · rename_i v _
      cases v
      · obtain ⟨h1, h2⟩ := h.2 rfl; exact ⟨_, h2, fun K' hk => ⟨fun e => (by cases e), fun _ => ⟨h1, hk⟩⟩⟩
      · obtain ⟨h1, h2⟩ := h.1 rfl; exact ⟨_, h2, fun K' hk => ⟨fun _ => ⟨h1, hk⟩, fun e => (by cases e)⟩⟩
    · exact h.elim
  | bin op x y =>
    simp only [res] at h ⊢
    split at h
    · cases op <;> simp only [] at h ⊢ <;> first | exact ⟨_, h.2, fun K' hk => ⟨h.1, hk⟩⟩ | exact ⟨_, h.2.2, fun K' hk => ⟨h.1, h.2.1, hk⟩⟩
    · cases op <;> simp only [] at h ⊢ <;> first | exact h.elim | exact ⟨_, h, fun K' hk => hk⟩ | exact ⟨_, h.2, fun K' hk => ⟨h.1, hk⟩⟩
    · exact h.elim
  | beq neg ks x y =>
    simp only [res] at h ⊢
    split at h
    · exact ⟨_, h.2, fun K' hk => ⟨h.1, hk⟩⟩
    · obtain ⟨h0, h⟩ := h
      split at h
      · exact ⟨_, h, fun K' hk => ⟨h0, hk⟩⟩
      · exact h.elim
    · exact ⟨_, h.2, fun K' hk => ⟨h.1, hk⟩⟩
    · rename_i es _ _
      rcases Nat.eq_zero_or_pos es.length with h0 | h0
      · exact ⟨_, h.2.2 h0, fun K' hk => ⟨h.1, fun h1 => absurd h1 (by omega), fun _ => hk⟩⟩
      · exact ⟨_, h.2.1 h0, fun K' hk => ⟨h.1, fun _ => hk, fun h1 => absurd h1 (by omega)⟩⟩
    · exact ⟨_, h.2, fun K' hk => ⟨h.1, hk⟩⟩
    · exact ⟨_, h.2, fun K' hk => ⟨h.1, hk⟩⟩
    · exact h.elim
  | un op x =>
    simp only [res] at h ⊢
    split at h
    · cases op <;> simp only [] at h ⊢ <;> first | exact h.elim | exact ⟨_, h, fun K' hk => hk⟩
    · cases op <;> simp only [] at h ⊢ <;> first | exact h.elim | exact ⟨_, h, fun K' hk => hk⟩
    · exact h.elim
  | conv k x =>
    simp only [res] at h ⊢
    split at h
    · exact ⟨_, h, fun K' hk => hk⟩
    · exact h.elim
  | fld off n ag x =>
    simp only [res] at h ⊢
    split at h
    · exact ⟨_, h.2, fun K' hk => ⟨h.1, hk⟩⟩
    · cases ag <;> exact ⟨_, h.2, fun K' hk => ⟨h.1, hk⟩⟩
    · exact h.elim
  | idxA len sz ag x i =>
    simp only [res] at h ⊢
    split at h
    · exact ⟨_, h.2.2.2, fun K' hk => ⟨h.1, h.2.1, h.2.2.1, hk⟩⟩
    · cases ag <;> exact ⟨_, h.2.2.2, fun K' hk => ⟨h.1, h.2.1, h.2.2.1, hk⟩⟩
    · exact h.elim
  | slA len sz x =>
    simp only [res] at h ⊢
    split at h
    · exact ⟨_, h.2.2.2, fun K' hk => ⟨h.1, h.2.1, h.2.2.1, hk⟩⟩
    · exact h.elim
  | cvS x =>
    simp only [res] at h ⊢
    split at h
    · exact ⟨_, h.2.2, fun K' hk => ⟨h.1, h.2.1, hk⟩⟩
    · exact h.elim
  | idxS x i =>
    simp only [res] at h ⊢
    split at h
    · obtain ⟨h0, b, h1, h2⟩ := h; exact ⟨_, h2, fun K' hk => ⟨h0, b, h1, hk⟩⟩
    · exact h.elim
  | ext i x =>
    simp only [res] at h ⊢
    split at h
    · obtain ⟨d, h1, h3⟩ := h; exact ⟨d, h3, fun K' hk => ⟨d, h1, hk⟩⟩
    · obtain ⟨d, h1, h3⟩ := h; exact ⟨d, h3, fun K' hk => ⟨d, h1, hk⟩⟩
    · exact h.elim
  | fad off x =>
    simp only [res] at h ⊢
    split at h
    · exact ⟨_, h, fun K' hk => hk⟩
    · exact ⟨_, h, fun K' hk => hk⟩
    · exact ⟨_, h, fun K' hk => hk⟩
    · exact h.elim
  | iadS sz x i =>
    simp only [res] at h ⊢
    split at h
    · obtain ⟨h0, e, h1, h2, h3⟩ := h; exact ⟨_, h3, fun K' hk => ⟨h0, e, h1, h2, hk⟩⟩
    · obtain ⟨h0, h1, h2, h3⟩ := h; exact ⟨_, h3, fun K' hk => ⟨h0, h1, h2, hk⟩⟩
    · obtain ⟨h0, h1, h2⟩ := h
      split at h2
      · exact ⟨_, h2.2, fun K' hk => ⟨h0, h1, h2.1, hk⟩⟩
      · exact h2.elim
    · exact h.elim
  | iadA len sz x i =>
    simp only [res] at h ⊢
    split at h
    · exact ⟨_, h.2.2, fun K' hk => ⟨h.1, h.2.1, hk⟩⟩
    · exact ⟨_, h.2.2, fun K' hk => ⟨h.1, h.2.1, hk⟩⟩
    · exact h.elim
  | ld n ag x =>
    simp only [res] at h ⊢
    split at h
    · rename_i p i off ex
      split at h
      · obtain ⟨r, h1, h2, h3⟩ := h
        cases ag with
        | false => exact ⟨_, h3, fun K' hk => ⟨r, h1, h2, hk⟩⟩
        | true =>
          cases hall : (((r.drop off).take n).all isV) with
          | true => exact ⟨_, h3.1 hall, fun K' hk => ⟨r, h1, h2, fun _ => hk, fun e => (by rw [hall] at e; cases e)⟩⟩
          | false => exact ⟨_, h3.2 hall, fun K' hk => ⟨r, h1, h2, fun e => (by rw [hall] at e; cases e), fun _ => hk⟩⟩
      · exact h.elim
    · exact ⟨_, h.2, fun K' hk => ⟨h.1, hk⟩⟩
    · rename_i ds ex
      obtain ⟨h0, h⟩ := h
      cases ag with
      | false => exact ⟨_, h.2, fun K' hk => ⟨h0, h.1, hk⟩⟩
      | true =>
        cases hall : (ds.take n).all isV with
        | true => exact ⟨_, h.1 hall, fun K' hk => ⟨h0, fun _ => hk, fun e => (by cases e)⟩⟩
        | false => exact ⟨_, h.2 hall, fun K' hk => ⟨h0, fun e => (by cases e), fun _ => hk⟩⟩
    · exact h.elim
  | blsF sz len zs parts =>
    simp only [res] at h ⊢
    exact ⟨_, h.2.2.2, fun K' hk => ⟨h.1, h.2.1, h.2.2.1, hk⟩⟩
  | blsX sz len zs parts =>
    simp only [res] at h ⊢
    exact ⟨_, h.2.2, fun K' hk => ⟨h.1, h.2.1, hk⟩⟩
  | boxF x =>
    simp only [res] at h ⊢
    split at h
    · exact ⟨_, h, fun K' hk => hk⟩
    · exact ⟨_, h, fun K' hk => hk⟩
    · exact ⟨_, h.2, fun K' hk => ⟨h.1, hk⟩⟩
  | bld zs parts =>
    simp only [res] at h ⊢
    obtain ⟨h1, h2, h3⟩ := h
    cases hall : (parts.all fun p => isV (vd f p.2.2)) with
    | true => exact ⟨_, h2 hall, fun K' hk => ⟨h1, fun _ => hk, fun e => (by cases e)⟩⟩
    | false => exact ⟨_, h3 hall, fun K' hk => ⟨h1, fun e => (by cases e), fun _ => hk⟩⟩
  | len x =>
    simp only [res] at h ⊢
    split at h
    · exact ⟨_, h, fun K' hk => hk⟩
    · exact ⟨_, h, fun K' hk => hk⟩
    · exact ⟨_, h, fun K' hk => hk⟩
    · exact ⟨_, h, fun K' hk => hk⟩
    · exact h.elim
  | lens x =>
    simp only [res] at h ⊢
    split at h
    · exact ⟨_, h, fun K' hk => hk⟩
    · exact h.elim
  | mk g xs =>
    simp only [res] at h ⊢
    obtain ⟨h1, h2, h3⟩ := h
    cases hall : (xs.all fun x => isV (vd f x)) with
    | true => exact ⟨_, h2 hall, fun K' hk => ⟨h1, fun _ => hk, fun e => (by cases e)⟩⟩
    | false => exact ⟨_, h3 hall, fun K' hk => ⟨h1, fun e => (by cases e), fun _ => hk⟩⟩
  | slc sz x lo hi =>
    simp only [res] at h ⊢
    split at h
    · obtain ⟨hz, h⟩ := h
      obtain ⟨m, h1, h2⟩ := bound_all h
      obtain ⟨l, ⟨h3, h4, h5⟩, h6⟩ := bound_all h1
      exact ⟨_, h5, fun K' hk => ⟨hz, h2 _ (h6 _ ⟨h3, h4, hk⟩)⟩⟩
    · obtain ⟨m, h1, h2⟩ := bound_all h
      obtain ⟨l, ⟨h3, h4, h5⟩, h6⟩ := bound_all h1
      exact ⟨_, h5, fun K' hk => h2 _ (h6 _ ⟨h3, h4, hk⟩)⟩
    · split at h
      · obtain ⟨hz, h⟩ := h
        obtain ⟨m, h1, h2⟩ := bound_all h
        obtain ⟨l, ⟨h3, h4, h5⟩, h6⟩ := bound_all h1
        exact ⟨_, h5, fun K' hk => ⟨hz, h2 _ (h6 _ ⟨h3, h4, hk⟩)⟩⟩
      · exact h.elim
    · exact h.elim
  | slS x lo hi =>
    simp only [res] at h ⊢
    split at h
    · obtain ⟨m, h1, h2⟩ := bound_all h
      obtain ⟨l, ⟨h3, h4, h5⟩, h6⟩ := bound_all h1
      exact ⟨_, h5, fun K' hk => h2 _ (h6 _ ⟨h3, h4, hk⟩)⟩
    · exact h.elim
  | mn x y =>
    simp only [res] at h ⊢
    split at h
    · exact ⟨_, h.2, fun K' hk => ⟨h.1, hk⟩⟩
    · exact h.elim
  | mx x y =>
    simp only [res] at h ⊢
    split at h
    · exact ⟨_, h.2, fun K' hk => ⟨h.1, hk⟩⟩
    · exact h.elim
  | add64 x y c =>
    simp only [res] at h ⊢
    split at h
    · obtain ⟨h1, h2, h3, h4, h5, h6, h7⟩ := h; exact ⟨_, h7, fun K' hk => ⟨h1, h2, h3, h4, h5, h6, hk⟩⟩
    · exact h.elim
  | sub64 x y c =>
    simp only [res] at h ⊢
    split at h
    · obtain ⟨h1, h2, h3, h4, h5, h6, h7⟩ := h; exact ⟨_, h7, fun K' hk => ⟨h1, h2, h3, h4, h5, h6, hk⟩⟩
    · exact h.elim
  | mpl sh kt et ok z m x =>
    simp only [res] at h ⊢
    split at h
    · split at h
      · obtain ⟨h1, h2, h3, h⟩ := h
        cases ok <;> exact ⟨_, h, fun K' hk => ⟨h1, h2, h3, hk⟩⟩
      · exact h.elim
    · exact h.elim
  | _ => simp only [res] at h
theorem abs1W_one {d : D} {K : D → List Nat → Prop} (h : abs1W f d K) : ∃ c bs, K c bs ∧ ∀ K', K' c bs → abs1W f d K' := by
  unfold abs1W at h ⊢
  split at h
  · obtain ⟨h0, h⟩ := h
    split at h
    · exact ⟨_, _, h.2.2, fun K' hk => ⟨h0, h.1, h.2.1, hk⟩⟩
    · exact h.elim
  · exact ⟨_, _, h.2, fun K' hk => ⟨h.1, hk⟩⟩
theorem absLW_one : ∀ {ds : List D} {K : List D → List Nat → Prop}, absLW f ds K → ∃ cs bs, K cs bs ∧ ∀ K', K' cs bs → absLW f ds K'
  | [], K, h => ⟨_, _, h, fun K' hk => hk⟩
  | d :: ds, K, h => by
    obtain ⟨c, bs, h1, h2⟩ := abs1W_one h
    obtain ⟨cs, bs', h3, h4⟩ := absLW_one h1
    exact ⟨_, _, h3, fun K' hk => h2 _ (h4 _ hk)⟩
theorem absW_one {d : D} {ns : List Nat} {K : List D → List Nat → Prop} (h : absW f d ns K) : ∃ cs bs, K cs bs ∧ ∀ K', K' cs bs → absW f d ns K' := by
  unfold absW at h ⊢
  split at h
  · exact ⟨_, _, h.2.2, fun K' hk => ⟨h.1, h.2.1, hk⟩⟩
  · obtain ⟨cs, bs, h1, h2⟩ := absLW_one h.2
    exact ⟨_, _, h1.2, fun K' hk => ⟨h.1, h2 _ ⟨h1.1, hk⟩⟩⟩
  · obtain ⟨c, bs, h1, h2⟩ := abs1W_one h.2
    exact ⟨_, _, h1, fun K' hk => ⟨h.1, h2 _ hk⟩⟩
theorem partsW_one {sz : Nat} {ns : List Nat} : ∀ {ps : List (Nat × Opd)} {es : List (List D)} {bs : List Nat} {K : List (List D) → List Nat → Prop}, partsW f sz ns ps es bs K → ∃ es' bs', K es' bs' ∧ ∀ K', K' es' bs' → partsW f sz ns ps es bs K'
  | [], es, bs, K, h => ⟨_, _, h, fun K' hk => hk⟩
  | (i, x) :: ps, es, bs, K, h => by
    obtain ⟨h0, h⟩ := h
    obtain ⟨cs, b1, ⟨h1, h1'⟩, h2⟩ := absW_one h
    obtain ⟨es', bs', h3, h4⟩ := partsW_one h1'
    exact ⟨_, _, h3, fun K' hk => ⟨h0, h2 _ ⟨h1, h4 _ hk⟩⟩⟩
theorem rowsW_one {mv : Bool} {d : D} {sz : Nat} {K : List (List D) → List Nat → Prop} (h : rowsW f mv d sz K) : ∃ es bs, K es bs ∧ ∀ K', K' es bs → rowsW f mv d sz K' := by
  unfold rowsW at h ⊢
  split at h
  · exact ⟨_, _, h, fun K' hk => hk⟩
  · exact ⟨_, _, h.2, fun K' hk => ⟨h.1, hk⟩⟩
  · cases mv with
    | true =>
      obtain ⟨h0, h⟩ := h
      split at h
      · split at h
        · exact ⟨_, _, h.2.2.2, fun K' hk => ⟨h0, h.1, h.2.1, h.2.2.1, hk⟩⟩
        · exact h.elim
      · exact h.elim
    | false =>
      simp only at h ⊢
      split at h
      · exact ⟨_, _, h.2.2.2, fun K' hk => ⟨h.1, h.2.1, h.2.2.1, hk⟩⟩
      · exact h.elim
  · exact h.elim
theorem resX_one {dst : Option Nat} {K : List (Nat × D) → List (Nat × Bool) → Prop} {o : NOp} (h : resX C f dst K o) : ∃ ws ks, K ws ks ∧ ∀ K' : List (Nat × D) → List (Nat × Bool) → Prop, K' ws ks → resX C f dst K' o := by
  have dk : ∀ {d : D}, dstK dst K d → ∃ ws ks, K ws ks ∧ ∀ K' : List (Nat × D) → List (Nat × Bool) → Prop, K' ws ks → dstK dst K' d := fun {d} h => by
    unfold dstK at h ⊢
    split at h
    · exact ⟨_, _, h, fun K' hk => hk⟩
    · exact ⟨_, _, h, fun K' hk => hk⟩
  have gen : ∀ (o : NOp), res f (dstK dst K) o → ∃ ws ks, K ws ks ∧ ∀ K' : List (Nat × D) → List (Nat × Bool) → Prop, K' ws ks → res f (dstK dst K') o := by
    intro o h
    obtain ⟨d, h1, h2⟩ := res_one h
    obtain ⟨ws, ks, h3, h4⟩ := dk h1
    exact ⟨ws, ks, h3, fun K' hk => h2 _ (h4 K' hk)⟩
  cases o with
  | frz x =>
    clear gen dk
    cases dst with
    | none => exact h.elim
    | some t =>
      simp only [resX] at h ⊢
      split at h
      · exact ⟨_, _, h.2, fun K' hk => ⟨h.1, hk⟩⟩
      · exact ⟨_, _, h.2, fun K' hk => ⟨h.1, hk⟩⟩
  | ldQ q x =>
    clear gen
    simp only [resX] at h ⊢
    split at h
    · obtain ⟨h1, h⟩ := h
      split at h
      · obtain ⟨r, h2, d, h3, h⟩ := h
        obtain ⟨ws, ks, h4, h5⟩ := dk h
        exact ⟨ws, ks, h4, fun K' hk => ⟨h1, r, h2, d, h3, h5 K' hk⟩⟩
      · exact h.elim
    · exact h.elim
  | appQ q sz by_ x y =>
    clear gen dk
    cases dst with
    | none => exact h.elim
    | some t =>
      simp only [resX] at h ⊢
      split at h
      · obtain ⟨h0, h⟩ := h
        obtain ⟨rows, bs, ⟨h1, h2, h⟩, hg⟩ := rowsW_one h
        split at h
        · obtain ⟨row0, h3, es, h4, h5, h6, h7⟩ := h
          exact ⟨_, _, h7, fun K' hk => ⟨h0, hg _ ⟨h1, h2, row0, h3, es, h4, h5, h6, hk⟩⟩⟩
        · exact h.elim
      · exact h.elim
  | cpy sz x y =>
    clear gen dk
    cases dst with
    | none => exact h.elim
    | some t =>
      simp only [resX] at h ⊢
      obtain ⟨rows, bs, ⟨h1, h2, h⟩, hg⟩ := rowsW_one h
      split at h
      · rename_i b k n _
        rcases Nat.eq_zero_or_pos n with hn | hn
        · exact ⟨_, _, h.1 hn, fun K' hk => hg _ ⟨h1, h2, fun _ => hk, fun h3 => absurd hn (by omega)⟩⟩
        · have h := h.2 hn
          split at h
          · obtain ⟨h3, h5, h6, h7, h8⟩ := h
            exact ⟨_, _, h8, fun K' hk => hg _ ⟨h1, h2, fun h4 => absurd h4 (by omega), fun _ => ⟨h3, h5, h6, h7, hk⟩⟩⟩
          · exact h.elim
      · exact h.elim
  | ldM n x =>
    clear gen dk
    cases dst with
    | none => exact h.elim
    | some t =>
      simp only [resX] at h ⊢
      split at h
      · obtain ⟨h1, h2, h⟩ := h
        split at h
        · obtain ⟨h3, h4, h5, h6⟩ := h
          exact ⟨_, _, h6, fun K' hk => ⟨h1, h2, h3, h4, h5, hk⟩⟩
        · exact h.elim
      · exact h.elim
  | stP x y =>
    clear gen dk
    simp only [resX] at h ⊢
    obtain ⟨h0, h⟩ := h
    split at h
    · obtain ⟨h1, h⟩ := h
      split at h
      · obtain ⟨h2, h3, h⟩ := h
        split at h
        · obtain ⟨h4, h⟩ := h
          split at h
          · obtain ⟨h5, h⟩ := h
            split at h
            · obtain ⟨row0, h6, sz1, es, h7, r, h8, h9, h10⟩ := h
              exact ⟨_, _, h10, fun K' hk => ⟨h0, h1, h2, h3, h4, h5, row0, h6, sz1, es, h7, r, h8, h9, hk⟩⟩
            · exact h.elim
          · exact h.elim
        · exact h.elim
      · exact h.elim
    · exact h.elim
  | ldF n x =>
    clear gen dk
    cases dst with
    | none => exact h.elim
    | some t =>
      simp only [resX] at h ⊢
      split at h
      · split at h
        · obtain ⟨r, h1, h2, h3⟩ := h
          exact ⟨_, _, h3, fun K' hk => ⟨r, h1, h2, hk⟩⟩
        · exact h.elim
      · exact h.elim
  | asg x =>
    clear gen dk
    cases dst with
    | none => exact h.elim
    | some t =>
      simp only [resX] at h ⊢
      split at h
      · split at h
        · rename_i e
          exact ⟨_, _, h, fun K' hk => by rw [if_pos e]; exact hk⟩
        · rename_i e
          split at h
          · exact ⟨_, _, h, fun K' hk => by rw [if_neg e]; exact hk⟩
          · exact h.elim
      · exact ⟨_, _, h.2, fun K' hk => ⟨h.1, hk⟩⟩
  | nilo sz =>
    clear gen dk
    simp only [resX] at h ⊢
    split at h
    · exact ⟨_, _, h.2, fun K' hk => ⟨h.1, hk⟩⟩
    · exact h.elim
  | box ns x =>
    clear gen dk
    simp only [resX] at h ⊢
    split at h
    · obtain ⟨cs, bs, ⟨h1, h2⟩, h3⟩ := absW_one h
      exact ⟨_, _, h2, fun K' hk => h3 _ ⟨h1, hk⟩⟩
    · exact h.elim
  | alc zs =>
    clear gen dk
    simp only [resX] at h ⊢
    split at h
    · exact ⟨_, _, h, fun K' hk => hk⟩
    · exact h.elim
  | mkm kt et =>
    clear gen dk
    simp only [resX] at h ⊢
    split at h
    · exact ⟨_, _, h, fun K' hk => hk⟩
    · exact h.elim
  | slM len sz x =>
    clear gen dk
    simp only [resX] at h ⊢
    split at h
    · split at h
      · obtain ⟨h1, h2, h3, h⟩ := h
        split at h
        · obtain ⟨h4, h5, h6, h7, h⟩ := h
          exact ⟨_, _, h, fun K' hk => ⟨h1, h2, h3, h4, h5, h6, h7, hk⟩⟩
        · exact h.elim
      · exact h.elim
    · exact h.elim
  | mpu sh kt et z m x v =>
    clear gen dk
    simp only [resX] at h ⊢
    obtain ⟨h0, h⟩ := h
    split at h
    · split at h
      · obtain ⟨h1, h2, h3, h4, h5, h⟩ := h
        exact ⟨_, _, h, fun K' hk => ⟨h0, h1, h2, h3, h4, h5, hk⟩⟩
      · exact h.elim
    · exact h.elim
  | callS g x xs =>
    clear gen dk
    simp only [resX] at h ⊢
    split at h
    · obtain ⟨h2, h⟩ := h
      split at h
      · obtain ⟨h3, h4, h9, h⟩ := h
        split at h
        · obtain ⟨es', h5, h6, h8, h7, h⟩ := h
          exact ⟨_, _, h, fun K' hk => ⟨h2, h3, h4, h9, es', h5, h6, h8, h7, hk⟩⟩
        · rcases h with ⟨es', h5, h6, h8, h7, h⟩ | ⟨hb, hz, es', h6, h8, h7, h⟩
          · exact ⟨_, _, h, fun K' hk => ⟨h2, h3, h4, h9, .inl ⟨es', h5, h6, h8, h7, hk⟩⟩⟩
          · exact ⟨_, _, h, fun K' hk => ⟨h2, h3, h4, h9, .inr ⟨hb, hz, es', h6, h8, h7, hk⟩⟩⟩
      · exact h.elim
    · exact h.elim
  | callN g x xs =>
    clear gen dk
    simp only [resX] at h ⊢
    split at h
    · obtain ⟨h2, h⟩ := h
      split at h
      · obtain ⟨row0, h3, sz, es, h4, h5, h6, es', h7, h8, h9, h⟩ := h
        exact ⟨_, _, h, fun K' hk => ⟨h2, row0, h3, sz, es, h4, h5, h6, es', h7, h8, h9, hk⟩⟩
      · exact h.elim
    · exact h.elim
  | callE g x xs =>
    clear gen dk
    simp only [resX] at h ⊢
    split at h
    · split at h
      · split at h
        · obtain ⟨h1, h2, h3, h4, h5, es', h6, h7, h⟩ := h
          exact ⟨_, _, h, fun K' hk => ⟨h1, h2, h3, h4, h5, es', h6, h7, hk⟩⟩
        · exact h.elim
      · exact h.elim
    · exact h.elim
  | callA g xs =>
    clear gen dk
    simp only [resX] at h ⊢
    obtain ⟨h0, h⟩ := h
    rcases h with ⟨d, h1, h⟩ | h
    · unfold dstK at h ⊢
      split at h
      · exact ⟨_, _, h, fun K' hk => ⟨h0, .inl ⟨d, h1, hk⟩⟩⟩
      · exact ⟨_, _, h, fun K' hk => ⟨h0, .inl ⟨d, h1, hk⟩⟩⟩
    · split at h
      · obtain ⟨R, h1, h2, h⟩ := h
        exact ⟨_, _, h, fun K' hk => ⟨h0, .inr ⟨R, h1, h2, hk⟩⟩⟩
      · exact h.elim
  | callL g x xs =>
    clear gen dk
    simp only [resX] at h ⊢
    split at h
    · obtain ⟨h1, h2, h⟩ := h
      split at h
      · obtain ⟨h3, h4, d, es', h5, h6, h⟩ := h
        exact ⟨_, _, h, fun K' hk => ⟨h1, h2, h3, h4, d, es', h5, h6, hk⟩⟩
      · exact h.elim
    · exact h.elim
  | clr zs x =>
    clear gen dk
    simp only [resX] at h ⊢
    split at h
    · exact ⟨_, _, h, fun K' hk => hk⟩
    · split at h
      · obtain ⟨h1, h2, h3, h4, h⟩ := h
        exact ⟨_, _, h, fun K' hk => ⟨h1, h2, h3, h4, hk⟩⟩
      · exact h.elim
    · split at h
      · obtain ⟨row0, h1, sz, es, h2, h3, h4, h5, h⟩ := h
        exact ⟨_, _, h, fun K' hk => ⟨row0, h1, sz, es, h2, h3, h4, h5, hk⟩⟩
      · exact h.elim
    · exact h.elim
  | callF g xs =>
    clear gen dk
    simp only [resX] at h ⊢
    obtain ⟨h0, h⟩ := h
    split at h
    · obtain ⟨sz, es, h1, h2⟩ := h
      exact ⟨_, _, h2, fun K' hk => ⟨h0, sz, es, h1, hk⟩⟩
    · exact h.elim
  | bls sz len zs ns parts =>
    clear gen dk
    simp only [resX] at h ⊢
    split at h
    · obtain ⟨es, bs, ⟨h1, h2, h3⟩, h4⟩ := partsW_one h
      exact ⟨_, _, h3, fun K' hk => h4 _ ⟨h1, h2, hk⟩⟩
    · exact h.elim
  | mks sz by_ zs n c =>
    clear gen dk
    simp only [resX] at h ⊢
    split at h
    · split at h
      · exact ⟨_, _, h.2.2.2, fun K' hk => ⟨h.1, h.2.1, h.2.2.1, hk⟩⟩
      · exact h.elim
    · exact h.elim
  | st n ns a v =>
    simp only [resX] at h ⊢
    obtain ⟨h0, h⟩ := h
    obtain ⟨cs, bs, ⟨h1, h2⟩, h3⟩ := absW_one h
    split at h2
    · obtain ⟨h4, h2⟩ := h2
      split at h2
      · rename_i hf
        obtain ⟨r, h5, h6, h7⟩ := h2
        exact ⟨_, _, h7, fun K' hk => ⟨h0, h3 _ ⟨h1, h4, ⟨r, h5, h6, hk⟩⟩⟩⟩
      · exact h2.elim
    · obtain ⟨h4, h4', h2⟩ := h2
      split at h2
      · rename_i hf
        obtain ⟨row0, h5, sz, es, h6, r, h7, h8, h9⟩ := h2
        exact ⟨_, _, h9, fun K' hk => ⟨h0, h3 _ ⟨h1, h4, h4', ⟨row0, h5, sz, es, h6, r, h7, h8, hk⟩⟩⟩⟩
      · exact h2.elim
    · exact h2.elim
  | app sz by_ mv x y =>
    clear gen dk
    simp only [resX] at h ⊢
    split at h
    · obtain ⟨rows, bs, ⟨h1, h2⟩, h3⟩ := rowsW_one h
      split at h2
      · exact ⟨_, _, h2.2, fun K' hk => h3 _ ⟨h1, h2.1, hk⟩⟩
      · obtain ⟨h4, h5, h2⟩ := h2
        split at h2
        · rename_i hf
          obtain ⟨h6, h7, h8, h9⟩ := h2
          exact ⟨_, _, h9, fun K' hk => h3 _ ⟨h1, h4, h5, ⟨h6, h7, h8, hk⟩⟩⟩
        · exact h2.elim
      · obtain ⟨h4, h5, h2⟩ := h2
        split at h2
        · rename_i hf
          obtain ⟨row0, h6, es, h7, h8, h9, h10⟩ := h2
          exact ⟨_, _, h10, fun K' hk => h3 _ ⟨h1, h4, h5, ⟨row0, h6, es, h7, h8, h9, hk⟩⟩⟩
        · exact h2.elim
      · exact h2.elim
    · exact h.elim
  | callG g xs =>
    simp only [resX] at h ⊢
    obtain ⟨h0, d, h1, h3⟩ := h
    obtain ⟨ws, ks, h4, h5⟩ := dk h3
    exact ⟨ws, ks, h4, fun K' hk => ⟨h0, d, h1, h5 K' hk⟩⟩
  | call g xs ms =>
    simp only [resX] at h ⊢
    obtain ⟨h0, d, h1, h2, h3⟩ := h
    obtain ⟨ws, ks, h4, h5⟩ := dk h3
    exact ⟨ws, ks, h4, fun K' hk => ⟨h0, d, h1, h2, h5 K' hk⟩⟩
  | callv x xs =>
    simp only [resX] at h ⊢
    split at h
    · obtain ⟨h0, d, h1, h2, h3⟩ := h
      obtain ⟨ws, ks, h4, h5⟩ := dk h3
      exact ⟨ws, ks, h4, fun K' hk => ⟨h0, d, h1, h2, h5 K' hk⟩⟩
    · obtain ⟨h0, h0', d, h1, h2, h3⟩ := h
      obtain ⟨ws, ks, h4, h5⟩ := dk h3
      exact ⟨ws, ks, h4, fun K' hk => ⟨h0, h0', d, h1, h2, h5 K' hk⟩⟩
    · exact h.elim
  | _ => (simp only [resX] at h ⊢; exact gen _ h)
end
end Go.Gv

namespace Go.Gv
open Go.RowKit
section
variable {P : Program} {F : Fid} {C : Nat → List D → D → List D → Prop} {nt : Nat} {S : Nat → Prop} {L : Nat → Option Loc} {w0 : World} {M0 : Mem} {f : Nat → D} {M : Mem} {a : Act} {w w' : World} {o : Oper} {d : D} {Q : Exit → Act → World → Prop} {ρ : Pa → Loc} {ω : Nat → Option Pa} {New : Nat → Prop} {K : List (Nat × D) → List (Nat × Bool) → Prop}
theorem eff_dead {t b : Nat} {d x : D} {q : Nat × D} (hq : isB q.2 = true ∨ q.2 = .any) : eff [(t, d), (b, x)] [(b, true)] (eff [q] [] f) = eff [(t, d), (b, x), q] [(b, true)] f := by
  funext s
  obtain ⟨c, y⟩ := q
  unfold eff
  by_cases e1 : s = t
  · subst e1; simp
  · have h1 : (s == t) = false := by simpa using e1
    by_cases e2 : s = b
    · subst e2; simp [List.lookup_cons, h1]
    · have h2 : (s == b) = false := by simpa using e2
      by_cases e3 : s = c
      · subst e3
        simp only [List.lookup_cons, h1, h2, List.lookup_nil, beq_self_eq_true]
        rcases hq with hq | hq
        · rw [mentL_isB hq]; rfl
        · simp only at hq
          subst hq
          simp [mentL, ment, ment1]
      · have h3 : (s == c) = false := by simpa using e3
        simp only [List.lookup_cons, h1, h2, h3, List.lookup_nil, mentL_nil, Bool.false_eq_true, if_false]
theorem deadP_fst (p : Pa) : (deadP f p).1 = p.root := by
  cases p with
  | r c => rfl
  | n c i o =>
    simp only [deadP, Pa.root]
    split <;> rfl
theorem deadP_snd (p : Pa) : isB (deadP f p).2 = true ∨ (deadP f p).2 = .any := by
  cases p with
  | r c => exact .inr rfl
  | n c i o =>
    simp only [deadP]
    split
    · exact .inl rfl
    · exact .inr rfl
theorem getP_n {b i off sz : Nat} {es : List (List D)} (hg : getP f (.n b i off) = some (sz, es)) : ∃ sz0 es0 row0, f b = .blk sz0 es0 ∧ es0[i]? = some row0 ∧ row0[off]? = some (.own sz es) := by
  simp only [getP] at hg
  split at hg
  · rename_i sz' es' e
    split at hg
    · rename_i sz2 r hr
      simp only [Option.some.injEq, Prod.mk.injEq] at hg
      obtain ⟨rfl, rfl⟩ := hg
      cases hi : es'[i]? with
      | none => rw [hi] at hr; simp at hr
      | some row =>
        rw [hi] at hr
        exact ⟨sz', es', row, e, hi, by simpa using hr⟩
    · cases hg
  · cases hg
theorem SR.leave (h : SR F nt S L w0 M0 f M a w) (ho : Own F L (fun k => S k ∨ w0.heap.size ≤ k) f M a w ρ ω) {p : Pa} {sz : Nat} {es : List (List D)} (hg : getP f p = some (sz, es)) (hch : Ch S w0 w') (hsz : w.heap.size ≤ w'.heap.size) (hholds : ∀ p v, M p = some v → w'.cell? p = some v)
    (hk : ∀ k q, ω k = some q → q ≠ p → w'.heap[k]? = w.heap[k]?) : SR F nt S L w0 M0 (eff [deadP f p] [] f) M a w' where
  hnt := h.hnt
  size := h.size
  defers := h.defers
  ch := hch
  holds := hholds
  ext := h.ext
  fresh := h.fresh
  own := by
    have hp := getP_big ho hg
    obtain ⟨sz0, es0, hf⟩ := (ho.get hp hg).2
    have hlk : ∀ s, s ≠ p.root → [deadP f p].lookup s = none := fun s hs => by
      have := lookup_one (b := (deadP f p).1) (d := (deadP f p).2) (s := s) (by rw [deadP_fst]; exact hs)
      exact this
    refine ⟨ρ, ω, ho.step (ks := []) (fun p hp => absurd rfl hp) (Mem.le_refl _) hsz (fun t ht => .inl ?_) (fun c hc => ?_) (fun k q e => .inl ⟨q, e⟩) ho.apart (fun c l hc hl hB => ⟨rfl, ?_⟩)⟩
    · rcases eff_slot (f := f) (ks := []) (hlk t (by omega)) with h2 | h2
      · exact .inl h2
      · exact .inr ⟨h2.1, rfl, h2.2⟩
    · by_cases e : c = p.root
      · cases p with
        | r b =>
          left; left
          have e : c = b := e
          subst e
          rw [eff_at (d := .any) (by simp [deadP])]; rfl
        | n b i off =>
          have e : c = b := e
          subst e
          right
          obtain ⟨sz1, es1, row0, hf1, hi0, ho0⟩ := getP_n hg
          have hf1' : f c = .blk sz0 es0 := hf
          rw [hf1'] at hf1
          cases hf1
          have hdd : deadP f (.n c i off) = (c, .blk sz0 (setC es0 i off 1 [.any])) := by simp only [deadP, hf1']
          have hlt : off < row0.length := (List.getElem?_eq_some_iff.1 ho0).1
          refine .inl ⟨sz0, setC es0 i off 1 [.any], eff_at (by rw [hdd]; simp), ?_⟩
          rcases ho.roots c sz0 es0 hc hf1' with ⟨e0, _⟩ | ⟨hω, h0, vs, T, h1, h2, h3, h4, h5⟩
          · rw [e0] at hi0; simp at hi0
          · refine .inr ⟨hω, h0, vs, T, (hk _ _ hω (by simp)).trans h1, h2, by rw [setC_length]; exact h3, setC_uniform h4 hi0 (by omega) rfl, fun i' r off' d hi hr => ?_⟩
            rcases setC_cell hi0 (show off + 1 ≤ row0.length by omega) rfl hi hr with ⟨rfl, g1, g2, g3⟩ | ⟨g1, r0, g2, g3⟩
            · have : off' = off := by omega
              subst this
              simp at g3
              subst g3
              obtain ⟨v, k1, k2⟩ := h5 i' row0 off' _ hi0 ho0
              exact ⟨v, k1, by simp [CellR, RepC]⟩
            · obtain ⟨v, k1, k2⟩ := h5 i' r0 off' d g2 g3
              exact ⟨v, k1, CellR.frame k2 (Mem.le_refl _) ⟨rfl, fun e => ⟨e, hk _ _ e (by
                intro h; cases h
                exact g1 ⟨rfl, by omega, by omega⟩)⟩⟩⟩
      · left
        rcases eff_root (f := f) (ks := []) (hlk c e) with h1 | h1
        · exact .inl h1
        · exact .inr ⟨h1, fun q hq => ⟨rfl, fun e' => ⟨e', hk _ _ e' (by rintro rfl; exact e hq.symm)⟩⟩⟩
    · by_cases e : c = p.root
      · rw [e, hf]; rfl
      · rcases eff_root (f := f) (ks := []) (hlk c e) with h1 | h1
        · rw [hB] at h1; cases h1
        · rw [← h1]; exact hB
theorem SR.newRow0 (h : SR F nt S L w0 M0 f M a w) {sz : Nat} {es' : List (List D)} {v : Value} (hu : ∀ e ∈ es', e.length = sz ∧ ∀ c ∈ e, isF1 c = true) (hb : Bel w w') (hn : NewRow F M w w' sz es' v) {t b' : Nat} (ht : t < nt) (hb0 : 10000 ≤ b') (hL : L b' = none) :
    SR F nt S L w0 M0 (eff [(t, .ref (.r b') 0 es'.length), (b', .blk sz es')] [(b', true)] f) M (a.put (some t) v) w' := by
  obtain ⟨B, o, T, us, cap, rfl, hB, hh, hcap, ⟨hlen, hmc⟩, hrep⟩ := hn
  have hle : o + es'.length * sz ≤ us.length := by
    have := Nat.mul_le_mul_right sz hcap
    omega
  exact h.makeAt (t := t) (b := b') (B := B) (o := o) (bs := []) (es := es') (sz := sz) (src := fun _ _ => none) (vs := us) (T := T) (d := .ref (.r b') 0 es'.length) (v := .slice (some ⟨B, o, none⟩) es'.length cap) ht hb0 hL hb hB hh hle (fun e he => (hu e he).1)
    (fun i r off c hi hr => by
      obtain ⟨u, k1, k2⟩ := hrep i r off c hi hr
      exact ⟨u, k1, .inl ⟨isF1_isO ((hu r (List.mem_of_getElem? hi)).2 c (List.mem_of_getElem? hr)), k2⟩⟩) (fun _ _ _ _ _ e => (by cases e)) (fun _ _ _ e => (by cases e))
    (fun ρ M e => by
      rw [repV_of rfl]
      simp only [RepR, e]
      exact .inr ⟨cap, by simp, hcap, by simpa using hlen, hmc⟩)
theorem repA_of {b : Option Nat} {v : Value} (h : isO d = false) : RepA F M w b d v ↔ RepC F M d v := by
  cases d <;> first | exact Iff.rfl | (simp [isO] at h)
theorem isV_isO (h : isV d = true) : isO d = false := by
  cases d <;> first | rfl | (simp [isV] at h)
theorem given (hO : Own F L New f M a w ρ ω) {p : Pa} {k n sz : Nat} {es : List (List D)} {v : Value} (hg : getP f p = some (sz, es)) (hkn : k + n ≤ es.length) (hv : RepR F M ρ (.ref p k n) v) (hfl : ∀ e ∈ (es.drop k).take n, ∀ c ∈ e, isO c = false) :
    (∃ A, v = .slice A 0 0 ∧ n = 0) ∨ ∃ (cap : Nat) (us : List Value) (T : TypeId), v = .slice (some ⟨(ρ p).blk, (ρ p).base + k * sz, none⟩) n cap ∧ (n ≤ cap ∧ cap ≤ 9223372036854775807) ∧ (ρ p).base + k * sz + cap * sz ≤ (ρ p).len ∧ ω (ρ p).blk = some p ∧ (ρ p).sz = sz ∧
      w.heap[(ρ p).blk]? = some (.cells us.toArray T (0, 0)) ∧ us.length = (ρ p).len ∧ (∀ e ∈ es, e.length = sz) ∧
      (∀ i r off d, ((es.drop k).take n)[i]? = some r → r[off]? = some d → ∃ u, us[(ρ p).base + k * sz + i * sz + off]? = some u ∧ RepC F M d u) := by
  have hp := getP_big hO hg
  obtain ⟨hpath, _⟩ := hO.get hp hg
  simp only [RepR] at hv
  rcases hv with ⟨h0, A, hv⟩ | ⟨cap, hv, hcap, hcl, hmc⟩
  · exact .inl ⟨A, hv, h0⟩
  · rcases hpath with ⟨e0, e1, e2, e3⟩ | ⟨hω, g0, us, T, g1, g2, g3, g4, g5⟩
    · have hn0 : n = 0 := by rw [e0] at hkn; simp at hkn; omega
      have hc0 : cap = 0 := by
        rw [e1, e2] at hcl
        rcases Nat.eq_zero_or_pos cap with h | h
        · exact h
        · have := Nat.mul_pos (show 0 < k + cap by omega) e3; omega
      subst hc0
      exact .inl ⟨_, by rw [hv, hn0], hn0⟩
    · have e1 : (k + cap) * sz = k * sz + cap * sz := Nat.add_mul _ _ _
      rw [g0, e1] at hcl
      refine .inr ⟨cap, us, T, by rw [hv, g0], ⟨hcap, hmc⟩, by omega, hω, g0, g1, g2, g4, fun i r off d h1 h2 => ?_⟩
      have hin : i < n := by have := (List.getElem?_eq_some_iff.1 h1).1; simp at this; omega
      have hO' := hfl r (List.mem_of_getElem? h1) d (List.mem_of_getElem? h2)
      rw [List.getElem?_take_of_lt hin, List.getElem?_drop] at h1
      obtain ⟨u, k1, k2⟩ := g5 (k + i) r off d h1 h2
      refine ⟨u, ?_, ?_⟩
      · rw [← k1, Nat.add_mul]; congr 1; omega
      · cases p with
        | r b =>
          have k2' : CellR F M ω ρ w b (k + i) off d u := k2
          rwa [isC1_CellR hO'] at k2'
        | n b i' o' => exact k2
theorem SR.fillN (h : SR F nt S L w0 M0 f M a w) (ho : Own F L (fun k => S k ∨ w0.heap.size ≤ k) f M a w ρ ω) {b sz0 i0 o0 sz : Nat} {es0 es es' : List (List D)} {row0 : List D} (hf : f b = .blk sz0 es0) (hi0 : es0[i0]? = some row0) (ho0 : row0[o0]? = some (.own sz es)) (hlen : es'.length = es.length)
    (hch : Ch S w0 w') (hsz : w.heap.size ≤ w'.heap.size) (hholds : ∀ p v, M p = some v → w'.cell? p = some v) (hnew : PathR ω ρ w' (.n b i0 o0) sz es' (fun _ _ d v => RepC F M d v)) (hk : ∀ k q, ω k = some q → q ≠ .n b i0 o0 → w'.heap[k]? = w.heap[k]?) :
    SR F nt S L w0 M0 (eff [(b, .blk sz0 (setC es0 i0 o0 1 [.own sz es']))] [] f) M a w' where
  hnt := h.hnt
  size := h.size
  defers := h.defers
  ch := hch
  holds := hholds
  ext := h.ext
  fresh := h.fresh
  own := ⟨ρ, ω, ho.setN hf hi0 ho0 hlen hsz (Mem.le_refl _) ho.apart hnew hk⟩
theorem eff_unit {dst : Option Nat} {b : Nat} {x : D} : (match dst with | some t => eff [(t, D.tup [])] [] (eff [(b, x)] [] f) | none => eff [(b, x)] [] f) = eff (unitW dst ++ [(b, x)]) [] f := by
  cases dst with
  | none => rfl
  | some t =>
    funext s
    unfold eff
    by_cases q : s = t
    · subst q
      simp [unitW, List.lookup_cons]
    · have q1 : (s == t) = false := by simpa using q
      simp only [unitW, List.cons_append, List.nil_append, List.lookup_cons, q1, List.lookup_nil, mentL, List.any_nil, Bool.false_eq_true, if_false]
theorem snd_callN {dst : Option Nat} (hC : CSound P F C) (h : SR F nt S L w0 M0 f M a w) (hp : ∀ t, o.dst = some t → t < nt) {g fi : Nat} {x : Opd} {xs : List Opd} {y : Operand} {ys : List Operand} {ts : Array TypeId} (ho : o.op = .call { callee := .value (.func fi), args := ⟨y :: ys⟩, argTypes := ts }) (hx0 : opdOk F x y = true) (hx : opdsOk F xs ys = true)
    (hg : F g = some fi) (hr : match vd f x with
    | .ref (.n b i o) k n => k = 0 ∧ match f b with
      | .blk sz0 es0 => ∃ row0, es0[i]? = some row0 ∧ ∃ sz es, row0[o]? = some (.own sz es) ∧ es.length = n ∧ (∀ x ∈ xs, isV (vd f x) = true) ∧ ∃ es' : List (List D), es'.length = es.length ∧ (∀ e ∈ es', e.length = sz ∧ ∀ c ∈ e, isC1 c = true) ∧
          C g (.own sz es :: xs.map (vd f)) .any [.own sz es', .nilp] ∧ K (unitW dst ++ [(b, .blk sz0 (setC es0 i o 1 [.own sz es']))]) []
      | _ => False
    | _ => False) (hdst : dst = o.dst := by rfl) : o.wp P a w (PostX F nt S L w0 M0 f K) Q := by
  split at hr
  · rename_i b i0 o0 k n hvx
    obtain ⟨rfl, hr⟩ := hr
    split at hr
    · rename_i sz0 es0 hf
      obtain ⟨row0, hi0, sz, es, ho0, rfl, hxs, es', hl, hu, hc, hK⟩ := hr
      have hrun : (execOp a.eval o).run P w = (callFunc fi (a.eval y :: ys.map a.eval).toArray).run P w := by
        simp only [execOp, ho, resolve, Act.eval, Deferred.ofValue, Sem.run_bind, Sem.run_pure, Result.andThen_ok, invoke]
        congr 2
        rw [Array.append_empty, Array.empty_append]
        apply Array.ext'
        simp
        cases y <;> simp [Act.eval]
      obtain ⟨ρ, ω, hO⟩ := h.own
      have hb := hO.big hf
      have hv := hO.opd hx0
      rw [hvx, repV_of rfl] at hv
      have hgp : getP f (.n b i0 o0) = some (sz, es) := by simp [getP, hf, hi0, ho0]
      have hpath : PathR ω ρ w (.n b i0 o0) sz es (fun _ _ d v => RepC F M d v) := (hO.get (p := .n b i0 o0) hb hgp).1
      have hnoO : ∀ e ∈ (es.drop 0).take es.length, ∀ c ∈ e, isO c = false := by
        intro e he c hc'
        rw [List.drop_zero, List.take_length] at he
        rcases hpath with ⟨e0, _⟩ | ⟨_, _, vs, T, _, _, _, _, h5⟩
        · rw [e0] at he; cases he
        · obtain ⟨i, hi⟩ := List.mem_iff_getElem?.1 he
          obtain ⟨j, hj⟩ := List.mem_iff_getElem?.1 hc'
          obtain ⟨u, _, h6⟩ := h5 i e j c hi hj
          cases c <;> first | rfl | (simp [RepC] at h6)
      have hrep : RepL F M (xs.map (vd f)) (ys.map a.eval) := by
        have h1 := opds_pure h hx (by rw [List.all_eq_true]; exact hxs)
        rwa [List.map_congr_left (g := vd f) fun x hx' => by unfold dpv; exact (dp_pure (hxs x hx')).1] at h1
      have hS := hC.runsS g fi sz es _ es' hg hc M w _ h.holds hrep
      have fin : ∀ w', SR F nt S L w0 M0 (eff [(b, .blk sz0 (setC es0 i0 o0 1 [.own sz es']))] [] f) M a w' → PostX F nt S L w0 M0 f K (a.put o.dst (.tuple #[])) w' := fun w' hs => by
        refine ⟨_, _, M, hK, ?_⟩
        rw [← eff_unit, hdst]
        cases hd : o.dst with
        | none => simpa [Act.put] using hs
        | some t => exact hs.put (hp t hd) fun _ _ _ => by rw [repV_of rfl]; simp [RepR, RepC, RepL]
      unfold Oper.wp
      rw [hrun, callFunc_named (hC.body g fi hg), Oper.upon_enter]
      rcases given hO hgp (by omega) hv hnoO with ⟨A, hv, hn0⟩ | ⟨cap, us, T, hv, ⟨hcap, hmc⟩, hcl, hω, g0, g1, g2, g4, g5⟩
      · have e : es = [] := List.eq_nil_of_length_eq_zero hn0
        have e' : es' = [] := List.eq_nil_of_length_eq_zero (by rw [hl, e]; rfl)
        rw [hv]
        refine (hS.1 e A).mono ?_
        rintro e0 w' ⟨rfl, hw⟩
        have h2 := h.grow hw
        refine fin w' (h.fillN hO hf hi0 ho0 hl h2.ch hw.size h2.holds ?_ (fun k q hk _ => hw.block k (hO.lt _ _ hk)))
        rw [e']
        rw [e] at hpath
        exact hpath.frame (ω' := ω) rfl (fun e' => ⟨e', hw.block _ (hO.lt _ _ e')⟩) (fun _ _ _ _ _ _ _ x => x)
      · rw [hv]
        simp only [List.drop_zero, List.take_length, Nat.zero_mul, Nat.add_zero] at g5 hcl ⊢
        have hMb : ∀ p : Addr, p.block = (ρ (.n b i0 o0)).blk → M p = none := fun p hp => hO.apart p (.n b i0 o0) (by rw [hp]; exact hω)
        refine (hS.2 (ρ (.n b i0 o0)).blk (ρ (.n b i0 o0)).base T us cap hMb (hO.lt _ _ hω) g1 hcap (by rw [g2]; exact hcl) g4 g5).mono ?_
        rintro e0 w' ⟨rfl, us', q1, q2, q3, q4⟩
        have hnew := hO.new _ _ hω
        have hh : ∀ p v, M p = some v → w'.cell? p = some v := fun p v hp => by
          have hne : p.block ≠ (ρ (.n b i0 o0)).blk := fun e => by rw [hMb p e] at hp; cases hp
          have h8 := h.holds p v hp
          rw [World.cell?_of_block (q4.block _ (World.block_lt_of_cell? w p h8) hne)]
          exact h8
        refine fin w' (h.fillN hO hf hi0 ho0 hl (h.ch.trans q4 (fun k hk e => by rcases hnew with h7 | h7; rw [e]; exact h7; omega)) q4.size hh (.inr ⟨hω, g0, us', T, q1, by rw [q2, g2], ?_, fun e he => (hu e he).1, fun i r off d h1 h2 => q3 i r off d h1 h2⟩) (fun k q hk hq => q4.block k (hO.lt _ _ hk) (by rintro rfl; rw [hω] at hk; cases hk; exact hq rfl)))
        rw [hl]
        have := Nat.mul_le_mul_right sz hcap
        omega
    · exact hr.elim
  · exact hr.elim
theorem snd_callE (hC : CSound P F C) (h : SR F nt S L w0 M0 f M a w) {t : Nat} (hd : o.dst = some t) (ht : t < nt) (hL : L (rt t 0) = none) {g fi : Nat} {x : Opd} {xs : List Opd} {y : Operand} {ys : List Operand} {ts : Array TypeId} (ho : o.op = .call { callee := .value (.func fi), args := ⟨y :: ys⟩, argTypes := ts }) (hx0 : opdOk F x y = true) (hx : opdsOk F xs ys = true)
    (hg : F g = some fi) (hr : match vd f x with
      | .ref p k n => match getP f p with
        | some (sz, es) => k + n ≤ es.length ∧ p.root ≠ rt t 0 ∧ 0 < sz ∧ (∀ e ∈ (es.drop k).take n, ∀ c ∈ e, isF1 c = true) ∧ (∀ x ∈ xs, argE f p.root x) ∧ ∃ es' : List (List D), (∀ e ∈ es', e.length = sz ∧ ∀ c ∈ e, isF1 c = true) ∧
            C g (.own sz ((es.drop k).take n) :: xs.map (argV f)) .any [.own sz es', .nils, .nils] ∧ K [(t, .ref (.r (rt t 0)) 0 es'.length), (rt t 0, .blk sz es'), deadP f p] [(rt t 0, true)]
        | none => False
      | _ => False) : o.wp P a w (PostX F nt S L w0 M0 f K) Q := by
  split at hr
  · rename_i p k n hvx
    split at hr
    · rename_i sz es hgp
      obtain ⟨hkn, hpt, hsz, hfl, harg, es', hu, hc, hK⟩ := hr
      have hrun : (execOp a.eval o).run P w = (callFunc fi (a.eval y :: ys.map a.eval).toArray).run P w := by
        simp only [execOp, ho, resolve, Act.eval, Deferred.ofValue, Sem.run_bind, Sem.run_pure, Result.andThen_ok, invoke]
        congr 2
        rw [Array.append_empty, Array.empty_append]
        apply Array.ext'
        simp
        cases y <;> simp [Act.eval]
      obtain ⟨ρ, ω, hO⟩ := h.own
      have hp := getP_big hO hgp
      have hv := hO.opd hx0
      rw [hvx, repV_of rfl] at hv
      have hargs : ∀ b : Option Nat, (∀ B, b = some B → ω B = some p) → RepAL F M w b (xs.map (argV f)) (ys.map a.eval) := by
        intro bo hbo
        have hx' := hx
        simp only [opdsOk, Bool.and_eq_true, beq_iff_eq, List.all_eq_true] at hx'
        refine ⟨by simpa using hx'.1, fun i d v h1 h2 => ?_⟩
        rw [List.getElem?_map, Option.map_eq_some_iff] at h1 h2
        obtain ⟨x1, h1, rfl⟩ := h1
        obtain ⟨y1, h2, rfl⟩ := h2
        have hok : opdOk F x1 y1 = true := hx'.2 (x1, y1) (List.mem_iff_getElem?.2 ⟨i, by rw [List.getElem?_zip_eq_some]; exact ⟨h1, h2⟩⟩)
        have hE := harg x1 (List.mem_of_getElem? h1)
        have hV := hO.opd hok
        have hP := fun hh => h.opd hok hh
        unfold argE at hE
        unfold argV
        revert hE hV hP
        generalize vd f x1 = d1
        intro hE hV hP
        cases d1 <;> first | exact (repA_of (isV_isO hE)).2 (hP hE) | skip
        rename_i q k1 n1
        cases q with
        | n c i o => simp [isV] at hE
        | r c =>
          simp only at hE ⊢
          obtain ⟨rfl, hcb, hE⟩ := hE
          split at hE
          · rename_i sz1 es1 hfc
            obtain ⟨rfl, hfl1⟩ := hE
            have hg1 : getP f (.r c) = some (sz1, es1) := by simp [getP, hfc]
            have hq := given hO hg1 (by omega) hV (fun e he c hc => by
              rw [List.drop_zero, List.take_length] at he
              exact isF1_isO (hfl1 e he c hc))
            show _ ∨ _
            rcases hq with ⟨A, q1, q2⟩ | ⟨cap, us, T, q1, ⟨q2, _⟩, q3, q4, q5, q6, q7, q8, q9⟩
            · exact .inl ⟨List.eq_nil_of_length_eq_zero q2, A, q1⟩
            · simp only [List.drop_zero, List.take_length, Nat.zero_mul, Nat.add_zero] at q1 q3 q9
              refine .inr ⟨_, _, T, us, cap, q1, fun e => ?_, q6, q2, by rw [q7]; exact q3, q9⟩
              have := hbo _ e
              rw [q4] at this
              cases this
              exact hcb rfl
          · exact hE.elim
      have hI := hC.runsI g fi sz _ _ es' hg hc M w (ys.map a.eval) h.holds
      unfold Oper.wp
      rw [hrun, callFunc_named (hC.body g fi hg), Oper.upon_enter]
      have hWn : ((es.drop k).take n).length = n := by simp; omega
      have hfst := deadP_fst (f := f) p
      have hsnd := deadP_snd (f := f) p
      rw [hd]
      rcases given hO hgp hkn hv (fun e he c hc => isF1_isO (hfl e he c hc)) with ⟨A, hv, hn0⟩ | ⟨cap, us, T, hv, ⟨hcap, hmc⟩, hcl, hω, g0, g1, g2, g4, g5⟩
      · have e : (es.drop k).take n = [] := List.eq_nil_of_length_eq_zero (by omega)
        have h0 := h.leave hO hgp h.ch (Nat.le_refl _) h.holds (fun _ _ _ _ => rfl)
        rw [hv]
        refine (hI.1 e A (hargs none (fun B e => by cases e))).mono ?_
        rintro e0 w' ⟨v, rfl, hw, ⟨e', A', rfl⟩ | hn⟩
        · refine ⟨_, _, M, hK, ?_⟩
          subst e'
          rw [← eff_dead hsnd]
          exact (h0.grow hw).nilA ht hL hsz A'
        · refine ⟨_, _, M, hK, ?_⟩
          rw [← eff_dead hsnd]
          exact h0.newRow0 hu hw hn ht (rt_big t 0) hL
      · rw [hv]
        have hMb : ∀ q : Addr, q.block = (ρ p).blk → M q = none := fun q hq => hO.apart q p (by rw [hq]; exact hω)
        have hnew := hO.new _ _ hω
        have hblt := hO.lt _ _ hω
        have hrun2 := hI.2 (ρ p).blk ((ρ p).base + k * sz) T us cap (hargs (some (ρ p).blk) (fun B e => by cases e; exact hω)) hMb hblt g1 (by rw [hWn]; exact hcap) hmc (by rw [g2]; exact hcl) (fun e he => g4 e (List.mem_of_mem_drop (List.mem_of_mem_take he))) g5
        rw [hWn] at hrun2
        refine hrun2.mono ?_
        have away : ∀ w' : World, Ch (fun k => k = (ρ p).blk) w w' → ∃ w2 : World, Bel w2 w' ∧ w2.heap.size = w.heap.size ∧ SR F nt S L w0 M0 (eff [deadP f p] [] f) M a w2 := by
          intro w' q4
          obtain ⟨B0, hB0⟩ : ∃ B0, B0 = (ρ p).blk := ⟨_, rfl⟩
          rw [← hB0] at q4 hblt
          obtain ⟨ob, q1⟩ : ∃ ob, w'.heap[B0]? = some ob := ⟨_, Array.getElem?_eq_getElem (Nat.lt_of_lt_of_le hblt q4.size)⟩
          obtain ⟨w2, hw2⟩ : ∃ w2 : World, w2 = { w with heap := w.heap.setIfInBounds B0 ob } := ⟨_, rfl⟩
          have y1 : ∀ k, k ≠ B0 → w2.heap[k]? = w.heap[k]? := fun k hk => by
            rw [hw2]; simp only [Array.getElem?_setIfInBounds]; rw [if_neg (Ne.symm hk)]
          have y2 : w2.heap[B0]? = some ob := by
            rw [hw2]; simp only [Array.getElem?_setIfInBounds]; simp [hblt]
          have y3 : w2.heap.size = w.heap.size := by rw [hw2]; simp
          have c2 : Ch (fun k => k = B0) w w2 := ⟨by rw [hw2], by rw [hw2], by rw [hw2], Nat.le_of_eq y3.symm, fun k _ hk => y1 k hk, by rw [hw2]; exact Nat.le_refl _⟩
          have hb2 : Bel w2 w' := ⟨by rw [q4.os, hw2], by rw [q4.tape, hw2], by rw [q4.output, hw2], by rw [y3]; exact q4.size, fun k hk => by
            by_cases e : k = B0
            · subst e; rw [y2, q1]
            · rw [y1 k e]; exact q4.block k (by rw [← y3]; exact hk) e, by have := q4.drawn; rw [hw2]; exact this⟩
          have hch2 : Ch S w0 w2 := h.ch.trans c2 (fun k hk e => by rw [e, hB0]; rw [e, hB0] at hk; rcases hnew with h7 | h7; exact h7; omega)
          have hh2 : ∀ p v, M p = some v → w2.cell? p = some v := fun q v hq => by
            have hne : q.block ≠ B0 := fun e => by rw [hMb q (by rw [e, hB0])] at hq; cases hq
            rw [World.cell?_of_block (y1 _ hne)]
            exact h.holds q v hq
          exact ⟨w2, hb2, y3, h.leave (w' := w2) hO hgp hch2 (Nat.le_of_eq y3.symm) hh2 (fun k' q hk' hq => y1 k' (by rintro rfl; rw [hB0, hω] at hk'; cases hk'; exact hq rfl))⟩
        rintro e0 w' ⟨v, rfl, q4, ⟨e', A', rfl⟩ | ⟨o2, cap2, T2, us', rfl, q1, hl, hmc2, hcl2, q3⟩ | hn⟩
        · obtain ⟨w2, hb2, _, h0⟩ := away w' q4
          refine ⟨_, _, M, hK, ?_⟩
          subst e'
          rw [← eff_dead hsnd]
          exact (h0.grow hb2).nilA ht hL hsz A'
        · have hchS : Ch S w0 w' := h.ch.trans q4 (fun k hk e => by rcases hnew with h7 | h7; rw [e]; exact h7; omega)
          have hh : ∀ p v, M p = some v → w'.cell? p = some v := fun q v hq => by
            have hne : q.block ≠ (ρ p).blk := fun e => by rw [hMb q e] at hq; cases hq
            have h8 := h.holds q v hq
            rw [World.cell?_of_block (q4.block _ (World.block_lt_of_cell? w q h8) hne)]
            exact h8
          have ht10 : t < 10000 := Nat.lt_of_lt_of_le ht h.hnt
          have hrb : 10000 ≤ rt t 0 := rt_big t 0
          have hpr : p.root ≠ t := by omega
          have hrt : rt t 0 ≠ t := by omega
          obtain ⟨dq, hdq⟩ : ∃ dq, dq = deadP f p := ⟨_, rfl⟩
          rw [← hdq] at hfst hsnd
          have lk : ∀ s, s ≠ t → s ≠ rt t 0 → s ≠ p.root → [(t, D.ref (.r (rt t 0)) 0 es'.length), (rt t 0, .blk sz es'), dq].lookup s = none := fun s s1 s2 s3 => by
            have e1 : (s == t) = false := by simpa using s1
            have e2 : (s == rt t 0) = false := by simpa using s2
            obtain ⟨c, y⟩ := dq
            simp only at hfst
            have e3 : (s == c) = false := by rw [hfst]; simpa using s3
            simp only [List.lookup_cons, e1, e2, e3, List.lookup_nil]
          have lkp : [(t, D.ref (.r (rt t 0)) 0 es'.length), (rt t 0, .blk sz es'), dq].lookup p.root = some dq.2 := by
            have e1 : (p.root == t) = false := by simpa using hpr
            have e2 : (p.root == rt t 0) = false := by simpa using hpt
            obtain ⟨c, y⟩ := dq
            simp only at hfst
            subst hfst
            simp only [List.lookup_cons, e1, e2, beq_self_eq_true]
          have key := h.app_core hO (f' := eff [(t, .ref (.r (rt t 0)) 0 es'.length), (rt t 0, .blk sz es'), dq] [(rt t 0, true)] f) (w' := w') (t := t) (b := rt t 0) (sz := sz) (n := es'.length) (m := 0) (rows := es') (rowsY := []) (src := some (p, k)) (inp := true) (c2 := none)
            (l := ⟨(ρ p).blk, o2, sz, us'.length⟩) (nb := none) (v := .slice (some ⟨(ρ p).blk, o2, none⟩) es'.length cap2) ht hL rfl rfl (by simpa [rootOfSrc] using hpt) (by simp) (fun c e => by cases e)
            (eff_at (by simp)) (by
              rw [List.append_nil]
              refine eff_at ?_
              have e1 : (rt t 0 == t) = false := by simpa using hrt
              simp [List.lookup_cons, e1])
            (fun s hs hst => eff_slot (lk s hst (by omega) (by omega)))
            (fun c hc hcb hcs _ => eff_root (lk c (by omega) hcb (by simpa [rootOfSrc] using fun e : c = p.root => hcs (by simp [rootOfSrc, e]))))
            (fun c e => by cases e)
            (fun c k' e => by
              cases e
              have := eff_at (f := f) (ks := [(rt t 0, true)]) lkp
              rw [hdq] at this ⊢
              exact this ▸ rfl)
            (fun c i o k' e => by
              cases e
              obtain ⟨sz0, es0, row0, z1, z2, z3⟩ := getP_n hgp
              refine ⟨sz0, es0, z1, ?_, row0, z2, (List.getElem?_eq_some_iff.1 z3).1⟩
              have := eff_at (f := f) (ks := [(rt t 0, true)]) lkp
              rw [hdq] at this
              simp only [deadP, z1] at this
              rw [hdq]
              simp only [deadP, z1]
              exact this)
            (fun k e => by cases e) q4.size hchS hh
            (fun k' q hk' hq => q4.block k' (hO.lt _ _ hk') (by rintro rfl; rw [hω] at hk'; cases hk'; exact hq rfl rfl))
            (by simp only [RepR, if_true]; exact .inr ⟨cap2, by simp, by simpa using hl, by simpa using hcl2, hmc2⟩)
            (.inr ⟨.inr ⟨rfl, p, k, rfl, hω, rfl⟩, rfl, us', T2, q1, rfl, (by
              have := Nat.mul_le_mul_right sz hl
              simp only [Nat.add_zero]
              omega), fun e he => (hu e (by simpa using he)).1, fun i r off d h1 h2 => by
                obtain ⟨u, k1, k2⟩ := q3 i r off d h1 h2
                refine ⟨u, k1, ?_⟩
                have hO' := isF1_isO ((hu r (List.mem_of_getElem? h1)).2 d (List.mem_of_getElem? h2))
                cases p with
                | r c => show CellR F M ω ρ w c _ off d u; rw [isC1_CellR hO']; exact k2
                | n c i' o' => exact ⟨hO', k2⟩, fun i r off d h1 _ => by simp at h1⟩)
          refine ⟨_, _, M, hK, ?_⟩
          rw [hdq] at key
          exact key
        · obtain ⟨w2, hb2, y3, h0⟩ := away w' q4
          have hn2 : NewRow F M w2 w' sz es' v := by
            obtain ⟨B, o, T, us, cap, z1, z2, z3⟩ := hn
            exact ⟨B, o, T, us, cap, z1, by rw [y3]; exact z2, z3⟩
          refine ⟨_, _, M, hK, ?_⟩
          rw [← eff_dead hsnd]
          exact h0.newRow0 hu hb2 hn2 ht (rt_big t 0) hL
    · exact hr.elim
  · exact hr.elim
end
end Go.Gv

namespace Go.Gv
section
variable {P : Program} {F : Fid} {C : Nat → List D → D → List D → Prop} {nt : Nat} {S : Nat → Prop} {L : Nat → Option Loc} {w0 : World} {M0 : Mem} {f : Nat → D} {M : Mem} {a : Act} {w : World} {o : Oper} {d : D} {Q : Exit → Act → World → Prop} {ρ : Pa → Loc} {ω : Nat → Option Pa} {New : Nat → Prop} {K : List (Nat × D) → List (Nat × Bool) → Prop}
def onlyω (ω : Nat → Option Pa) (c : Nat) : Nat → Option Pa := fun k => match ω k with
  | some p => if p.root = c then some p else none
  | none => none
theorem onlyω_some {c k : Nat} {p : Pa} (h : onlyω ω c k = some p) : ω k = some p ∧ p.root = c := by
  unfold onlyω at h
  split at h
  · rename_i q hq
    split at h
    · cases h
      exact ⟨hq, by assumption⟩
    · cases h
  · cases h
theorem onlyω_of {c k : Nat} {p : Pa} (h : ω k = some p) (hp : p.root = c) : onlyω ω c k = some p := by
  simp only [onlyω, h, if_pos hp]
def fcE (f : Nat → D) (c : Nat) : Nat → D := fun t => if t = c then f t else .any
theorem Own.only (h : Own F L New f M a w ρ ω) {c : Nat} (hc : 10000 ≤ c) : Own F L New (fcE f c) M a w ρ (onlyω ω c) := by
  have hne : ∀ {t : Nat}, t ≠ c → fcE f c t = .any := fun {t} ht => by simp only [fcE, if_neg ht]
  have hcc : fcE f c c = f c := by simp [fcE]
  refine h.step (ks := []) (fun p hp => absurd rfl hp) (Mem.le_refl _) (Nat.le_refl _) (fun t ht => .inl (.inl (hne (by omega)))) (fun b hb => ?_) (fun k p e => .inl ⟨p, (onlyω_some e).1⟩) (fun p q e => h.apart p q (onlyω_some e).1) (fun b l hb hl hB => ?_)
  · by_cases e : b = c
    · subst e
      exact .inl (.inr ⟨hcc, fun p hp => ⟨rfl, fun hw => ⟨onlyω_of hw hp, rfl⟩⟩⟩)
    · exact .inl (.inl (by rw [hne e]; rfl))
  · by_cases e : b = c
    · subst e
      rw [hcc] at hB
      exact ⟨rfl, hB⟩
    · rw [hne e] at hB; cases hB
theorem getP_only {c : Nat} (_ : Nat) : getP (fcE f c) (.r c) = getP f (.r c) := by simp [getP, fcE]
theorem SR.frz (h : SR F nt S L w0 M0 f M a w) {t : Nat} (ht : t < nt) {c k n : Nat} (hc : 10000 ≤ c) {v : Value} (hv : ∀ ρ ω, Own F L (fun k => S k ∨ w0.heap.size ≤ k) f M a w ρ ω → RepR F M ρ (.ref (.r c) k n) v) (hk : dpOk1 f (.ref (.r c) k n)) :
    ∃ M', SR F nt S L w0 M0 (eff [(t, dp1 f (.ref (.r c) k n)), (c, .any)] [] f) M' (a.put (some t) v) w := by
  obtain ⟨ρ, ω, hO⟩ := h.own
  have hnt := h.hnt
  have hsz := h.size
  have hO1 := hO.only hc
  have e1 : getP (fcE f c) (.r c) = getP f (.r c) := getP_only 0
  have hk1 : dpOk1 (fcE f c) (.ref (.r c) k n) := by simp only [dpOk1, e1] at hk ⊢; exact hk
  have ed : dp1 (fcE f c) (.ref (.r c) k n) = dp1 f (.ref (.r c) k n) := by simp only [dp1, e1]
  have hr := dp1_rep' hO1 (hv ρ ω hO) hk1
  rw [ed] at hr
  have hle : M.le (Mplus (onlyω ω c) M w) := Mplus_le hO1
  have hE := hO.erase hc
  have hpure : isX (dp1 f (.ref (.r c) k n)) = false ∧ isB (dp1 f (.ref (.r c) k n)) = false ∧ ∀ ρ', RepR F (Mplus (onlyω ω c) M w) ρ' (dp1 f (.ref (.r c) k n)) v := by
    simp only [dp1] at hr ⊢
    split
    · rename_i e
      rw [e] at hr
      exact ⟨rfl, rfl, fun _ => hr⟩
    · rename_i e
      rw [e] at hr
      exact ⟨rfl, rfl, fun _ => hr⟩
  generalize dp1 f (.ref (.r c) k n) = x at *
  have hf' : ∀ s, eff [(t, x), (c, .any)] [] f s = if s = t then x else fbE f c s := fun s => by
    unfold eff fbE
    by_cases e : s = t
    · subst e; simp
    · have b1 : (s == t) = false := by simpa using e
      by_cases e2 : s = c
      · subst e2
        simp only [List.lookup, b1, beq_self_eq_true, if_neg e, if_true]
      · have b2 : (s == c) = false := by simpa using e2
        simp only [List.lookup, b1, b2, if_neg e, if_neg e2]
        simp [mentL]
  refine ⟨Mplus (onlyω ω c) M w, ⟨hnt, by simp [Act.put, hsz], by simp [Act.put, h.defers], h.ch, Mplus_holds h.holds, Mem.le_trans h.ext hle, fun p h1 h2 => ?_, ρ, ersω ω c, ?_⟩⟩
  · by_cases e : M p = none
    · unfold Mplus at h2
      split at h2
      · rename_i q hq
        exact hO.new _ _ (onlyω_some hq).1
      · exact absurd e h2
    · exact h.fresh p h1 e
  · refine hE.step (ks := []) (fun p hp => absurd rfl hp) hle (Nat.le_refl _) (fun s hs => ?_) (fun b hb => ?_) (fun k p e => .inl ⟨p, e⟩) (fun p q e => ?_) (fun b l hb hl hB => ?_)
    · rw [hf']
      by_cases e : s = t
      · subst e
        rw [if_pos rfl]
        refine .inr (.inr ⟨v, by simp [Act.put, hsz, ht], ?_⟩)
        rw [hf', if_pos rfl, repV_of hpure.1]
        exact hpure.2.2 ρ
      · rw [if_neg e]
        refine .inl (.inr ⟨rfl, ?_, by simp [mentL]⟩)
        simp [Act.put, Array.getElem?_setIfInBounds, Ne.symm e]
    · have : b ≠ t := by omega
      rw [hf', if_neg this]
      exact .inl (.inr ⟨rfl, fun p hp => ⟨rfl, fun hw => ⟨hw, rfl⟩⟩⟩)
    · obtain ⟨e2, e3⟩ := ersω_some e
      have e4 : onlyω ω c p.block = none := by
        simp only [onlyω, e2, if_neg e3]
      simp only [Mplus, e4]
      exact hO.apart p q e2
    · have : b ≠ t := by omega
      rw [hf', if_neg this] at hB
      exact ⟨rfl, hB⟩
theorem snd_frz (h : SR F nt S L w0 M0 f M a w) {t : Nat} (hd : o.dst = some t) (ht : t < nt) {x : Opd} {x' : Operand} (ho : o.op = .move x' ∨ o.op = .assign x') (hx : opdOk F x x' = true)
    (hr : match vd f x with
      | .ref (.r c) k n => dpOk1 f (.ref (.r c) k n) ∧ K [(t, dp1 f (.ref (.r c) k n)), (c, .any)] []
      | d => isS d = true ∧ K [(t, d)] []) : o.wp P a w (PostX F nt S L w0 M0 f K) Q := by
  have hrun : (execOp a.eval o).run P w = .ok (.value (a.eval x')) w := by rcases ho with ho | ho <;> simp [execOp, ho]
  split at hr
  · rename_i c k n ex
    have hc : 10000 ≤ c := by
      obtain ⟨ρ, ω, hO⟩ := h.own
      have h1 := hr.1
      simp only [dpOk1] at h1
      split at h1
      · rename_i e; exact getP_big hO e
      · exact h1.elim
    obtain ⟨M', hs⟩ := h.frz ht hc (v := a.eval x') (fun ρ ω hO => by have := hO.opd hx; rwa [ex, repV_of rfl] at this) hr.1
    exact wp_value hrun (by rw [hd]; exact ⟨_, _, M', hr.2, hs⟩)
  · exact postX_val hd hrun hr.2 (h.put ht (fun ρ ω hO => hO.opd hx))
end
end Go.Gv

namespace Go.Gv
section
variable {P : Program} {F : Fid} {C : Nat → List D → D → List D → Prop} {nt : Nat} {S : Nat → Prop} {L : Nat → Option Loc} {w0 : World} {M0 : Mem} {f : Nat → D} {M : Mem} {a : Act} {w : World} {o : Oper} {d : D} {Q : Exit → Act → World → Prop} {ρ : Pa → Loc} {ω : Nat → Option Pa} {New : Nat → Prop} {K : List (Nat × D) → List (Nat × Bool) → Prop}
theorem snd_callG (hC : CSound P F C) (h : SR F nt S L w0 M0 f M a w) (hp : putOk nt f o.dst) {g fi : Nat} {xs : List Opd} {ys : Array Operand} {ts : Array TypeId} (ho : o.op = .call { callee := .value (.func fi), args := ys, argTypes := ts }) (hx : opdsOk F xs ys.toList = true)
    (hg : F g = some fi) (hr : (∀ x ∈ xs, dpOk f (vd f x)) ∧ ∃ d, C g (xs.map (dpv f)) d [.nilp] ∧ dstK o.dst K d) : o.wp P a w (PostX F nt S L w0 M0 f K) Q := by
  obtain ⟨h0, d, h1, hK⟩ := hr
  have hrun : (execOp a.eval o).run P w = (callFunc fi (ys.toList.map a.eval).toArray).run P w := by
    simp only [execOp, ho, resolve, Act.eval, Deferred.ofValue, Sem.run_bind, Sem.run_pure, Result.andThen_ok, invoke]
    congr 2
    rw [Array.append_empty, Array.empty_append]
    apply Array.ext'
    simp
  obtain ⟨ρ, ω, hO⟩ := h.own
  unfold Oper.wp
  rw [hrun, callFunc_named (hC.body g fi hg), Oper.upon_enter]
  refine (hC.runsG g fi _ d hg h1 (Mplus ω M w) w _ (Mplus_holds h.holds) (opds_dp hO hx h0)).mono ?_
  rintro e w' ⟨v, M2, rfl, hb, hf, hh, rv⟩
  have hnone : ∀ p, w.heap.size ≤ p.block → M p = none := fun p hp => by
    cases e : M p with
    | none => rfl
    | some u =>
      have := World.block_lt_of_cell? w p (h.holds p u e)
      omega
  have hM : M.le (fun p => match M p with | some v => some v | none => M2 p) := fun p u e => by simp only [e]
  have hM2 : M2.le (fun p => match M p with | some v => some v | none => M2 p) := fun p u e => by
    simp only [hnone p (hf p (by rw [e]; simp)), e]
  have h' : SR F nt S L w0 M0 f (fun p => match M p with | some v => some v | none => M2 p) a w' := h.world hb hM (fun p e e' => by
    simp only [e] at e'
    exact hf p e') (fun p u e => by
    cases e1 : M p with
    | none => simp only [e1] at e; exact hh p u e
    | some u' =>
      simp only [e1] at e
      cases e
      have h1 := h.holds p _ e1
      rw [hb.cell (World.block_lt_of_cell? w p h1)]
      exact h1)
  have rv2 := RepC.mono hM2 _ _ rv
  generalize o.dst = t at hp hK ⊢
  cases t with
  | none => exact ⟨[], [], _, hK, by simpa [Act.put, eff_nil] using h'⟩
  | some t => exact ⟨_, _, _, hK, h'.put hp (fun _ _ _ => RepV.of_pure rv2)⟩
def flatP : D → Prop
  | .any => True
  | .nils => True
  | .ref _ _ _ => True
  | .blk _ es => ∀ r ∈ es, ∀ c ∈ r, isF1 c = true
  | d => isF1 d = true
theorem flatP_rep {d : D} {v : Value} {M' : Mem} (hf : flatP d) (hn : d ≠ .any) (hb : isB d = false) (h : RepV F M ρ d v) : RepV F M' ρ d v := by
  cases d <;> simp only [flatP] at hf <;> first | exact h | (simp [isF1] at hf; done) | (simp [isB] at hb; done) | (rw [repV_of rfl] at h ⊢; simp only [RepR] at h ⊢; exact flat1_rep hf h) | exact absurd rfl hn
theorem SR.flat (h : SR F nt S L w0 M0 f M a w) (hf : ∀ t, flatP (f t)) (hsl : ∀ t, t < 10000 → isB (f t) = false) : SR F nt S L w0 (fun _ => none) f (fun _ => none) a w where
  hnt := h.hnt
  size := h.size
  defers := h.defers
  ch := h.ch
  holds p v e := by cases e
  ext := Mem.le_refl _
  fresh p _ e := absurd rfl e
  own := by
    obtain ⟨ρ, ω, hO⟩ := h.own
    refine ⟨ρ, ω, ⟨fun t ht => ?_, fun b sz es hb e => ?_, fun b kt et ks vs hb e => ?_, hO.lt, hO.new, fun _ _ _ => rfl, hO.lent⟩⟩
    · rcases hO.slots t ht with h1 | ⟨v, h1, h2⟩
      · exact .inl h1
      · by_cases e : f t = .any
        · exact .inl e
        · exact .inr ⟨v, h1, flatP_rep (hf t) e (hsl t ht) h2⟩
    · have h1 := hO.roots b sz es hb e
      have h2 := hf b
      rw [e] at h2
      simp only [flatP] at h2
      unfold RootR PathR at h1 ⊢
      rcases h1 with h1 | ⟨h1, h3, vs, T, g1, g2, g3, g4, g5⟩
      · exact .inl h1
      · refine .inr ⟨h1, h3, vs, T, g1, g2, g3, g4, fun i r off d e1 e2 => ?_⟩
        obtain ⟨v, k1, k2⟩ := g5 i r off d e1 e2
        have hf1 := h2 r (List.mem_of_getElem? e1) d (List.mem_of_getElem? e2)
        have k3 : CellR F M ω ρ w b i off d v := k2
        rw [isC1_CellR (isF1_isO hf1)] at k3
        refine ⟨v, k1, ?_⟩
        show CellR F (fun _ => none) ω ρ w b i off d v
        rw [isC1_CellR (isF1_isO hf1)]
        exact flat1_rep hf1 k3
    · have h2 := hf b
      rw [e] at h2
      simp [flatP, isF1] at h2
end
end Go.Gv

namespace Go.Gv
open Go.RowKit
section
variable {P : Program} {F : Fid} {C : Nat → List D → D → List D → Prop} {nt : Nat} {S : Nat → Prop} {L : Nat → Option Loc} {w0 : World} {M0 : Mem} {f : Nat → D} {M M' : Mem} {a : Act} {w w' : World} {o : Oper} {d : D} {Q : Exit → Act → World → Prop} {ρ ρ' : Pa → Loc} {ω ω' : Nat → Option Pa} {New : Nat → Prop} {K : List (Nat × D) → List (Nat × Bool) → Prop}
def Pa.to (c : Nat) : Pa → Pa
  | .r _ => .r c
  | .n _ i o => .n c i o
theorem Pa.to_root (c : Nat) (p : Pa) : (p.to c).root = c := by cases p <;> rfl
theorem Pa.to_to (b c : Nat) (p : Pa) (h : p.root = b) : (p.to c).to b = p := by cases p <;> simp only [Pa.root] at h <;> subst h <;> rfl
theorem RootR.carry {b c sz : Nat} {es : List (List D)} (h : RootR F M ω ρ w b sz es) (hM : M.le M') (hs : ∀ p : Pa, p.root = b → ρ' (p.to c) = ρ p ∧ (ω (ρ p).blk = some p → ω' (ρ p).blk = some (p.to c) ∧ w'.heap[(ρ p).blk]? = w.heap[(ρ p).blk]?)) : RootR F M' ω' ρ' w' c sz es := by
  have path : ∀ (p : Pa) (sz : Nat) (es : List (List D)) (R R' : Nat → Nat → D → Value → Prop), p.root = b → PathR ω ρ w p sz es R → (∀ i r off d v, es[i]? = some r → r[off]? = some d → R i off d v → R' i off d v) → PathR ω' ρ' w' (p.to c) sz es R' := by
    intro p sz es R R' hp h hR
    obtain ⟨e1, e2⟩ := hs p hp
    unfold PathR at h ⊢
    rw [e1]
    rcases h with h | ⟨h1, h2⟩
    · exact .inl h
    · obtain ⟨g1, g2⟩ := e2 h1
      exact .inr ⟨g1, h2.frame g2 hR⟩
  unfold RootR at h ⊢
  refine path (.r b) sz es _ _ rfl h (fun i r off d v k1 k2 hr => ?_)
  cases d
  case own sz2 es2 =>
    obtain ⟨h1, h2⟩ := hr
    refine ⟨?_, path (.n b i off) sz2 es2 _ _ rfl h2 (fun _ _ _ d v _ _ hr => RepC.mono hM d v hr)⟩
    have := (hs (.n b i off) rfl).1
    simp only [RepR, Pa.to] at h1 this ⊢
    rw [this]
    exact h1
  all_goals exact RepC.mono hM _ _ hr
theorem SR.lend (h : SR F nt S L w0 M0 f M a w) (hO : Own F L (fun k => S k ∨ w0.heap.size ≤ k) f M a w ρ ω) {b sz : Nat} {es es' : List (List D)} (hf : f b = .blk sz es) (hb : 10000 ≤ b) (hω : ω (ρ (.r b)).blk = some (.r b)) {ρ1 : Pa → Loc} {ω1 : Nat → Option Pa}
    (hρ1 : ∀ p : Pa, p.root = b → ρ1 (p.to lentB) = ρ p) (hω1 : ∀ k q, ω1 k = some q ↔ ∃ p : Pa, ω k = some p ∧ p.root = b ∧ q = p.to lentB)
    (hch : Ch (fun k => ∃ p, ω1 k = some p) w w') (hM : M.le M') (hfr : ∀ p, M p = none → M' p ≠ none → (∃ q, ω1 p.block = some q) ∨ w.heap.size ≤ p.block) (hh : ∀ p v, M' p = some v → w'.cell? p = some v)
    (hρ' : ρ' (.r lentB) = ρ1 (.r lentB)) (hl : Lent F M' w' ρ' ω' lentB sz es') (hnew : ∀ k p, ω' k = some p → (∃ q, ω1 k = some q) ∨ w.heap.size ≤ k)
    {dst : Option Nat} (ht : ∀ t, dst = some t → t < nt) {v : Value} (hv : RepC F M' d v) :
    SR F nt S L w0 M0 (eff (valW dst d ++ [(b, .blk sz es')]) [(b, false)] f) M' (a.put dst v) w' := by
  have hS1 : ∀ k q, ω1 k = some q → ∃ p, ω k = some p ∧ p.root = b := fun k q e => by
    obtain ⟨p, h1, h2, _⟩ := (hω1 k q).1 e
    exact ⟨p, h1, h2⟩
  have other : ∀ k p, ω k = some p → p.root ≠ b → (∀ q, ω1 k ≠ some q) ∧ ω' k = none ∧ w'.heap[k]? = w.heap[k]? := fun k p e hp => by
    have h1 : ∀ q, ω1 k ≠ some q := fun q e1 => by
      obtain ⟨p', h1, h2⟩ := hS1 k q e1
      rw [e] at h1; cases h1; exact hp h2
    refine ⟨h1, ?_, hch.block k (hO.lt _ _ e) (fun ⟨q, e1⟩ => h1 q e1)⟩
    cases e2 : ω' k with
    | none => rfl
    | some q =>
      rcases hnew k q e2 with ⟨q, e1⟩ | h2
      · exact absurd e1 (h1 q)
      · have := hO.lt _ _ e; omega
  obtain ⟨ρ2, hρ2⟩ : ∃ ρ2 : Pa → Loc, ρ2 = fun p => if p.root = b then ρ' (p.to lentB) else ρ p := ⟨_, rfl⟩
  obtain ⟨ω2, hω2⟩ : ∃ ω2 : Nat → Option Pa, ω2 = fun k => match ω' k with
    | some q => some (q.to b)
    | none => match ω k with
      | some p => if p.root = b then none else some p
      | none => none := ⟨_, rfl⟩
  have r1 : ∀ p : Pa, p.root = b → ρ2 p = ρ' (p.to lentB) := fun p hp => by rw [hρ2]; simp only [if_pos hp]
  have r2 : ∀ p : Pa, p.root ≠ b → ρ2 p = ρ p := fun p hp => by rw [hρ2]; simp only [if_neg hp]
  have o1 : ∀ k q, ω' k = some q → ω2 k = some (q.to b) := fun k q e => by rw [hω2]; simp only [e]
  have o2 : ∀ k p, ω k = some p → p.root ≠ b → ω2 k = some p := fun k p e hp => by rw [hω2]; simp only [(other k p e hp).2.1, e, if_neg hp]
  have o3 : ∀ k p, ω2 k = some p → (∃ q, ω' k = some q ∧ p = q.to b) ∨ (ω k = some p ∧ p.root ≠ b) := fun k p e => by
    rw [hω2] at e
    simp only at e
    cases e1 : ω' k with
    | some q => rw [e1] at e; cases e; exact .inl ⟨q, rfl, rfl⟩
    | none =>
      rw [e1] at e
      simp only at e
      cases e2 : ω k with
      | none => rw [e2] at e; cases e
      | some p' =>
        rw [e2] at e
        simp only at e
        split at e
        · cases e
        · cases e; exact .inr ⟨rfl, by assumption⟩
  have hrb : ρ2 (.r b) = ρ (.r b) := by
    rw [r1 (.r b) rfl]
    show ρ' (.r lentB) = _
    rw [hρ', ← hρ1 (.r b) rfl]
    rfl
  have hfb : eff (valW dst d ++ [(b, .blk sz es')]) [(b, false)] f b = .blk sz es' := eff_at (by
    cases dst with
    | none => simp [valW]
    | some t =>
      have : (b == t) = false := by have := ht t rfl; have := h.hnt; simp; omega
      simp [valW, List.lookup_cons, this])
  have lk : ∀ s, s ≠ b → dst ≠ some s → (valW dst d ++ [(b, D.blk sz es')]).lookup s = none := fun s h1 h2 => by
    have e1 : (s == b) = false := by simpa using h1
    cases dst with
    | none => simp only [valW, List.nil_append, List.lookup_cons, e1, List.lookup_nil]
    | some t =>
      have e2 : (s == t) = false := by simp; rintro rfl; exact h2 rfl
      simp only [valW, List.cons_append, List.nil_append, List.lookup_cons, e1, e2, List.lookup_nil]
  have hsize : (a.put dst v).tmps.size = nt := by cases dst <;> simp [Act.put, h.size]
  refine ⟨h.hnt, hsize, by cases dst <;> simp [Act.put, h.defers], h.ch.trans hch (fun k hk ⟨q, e⟩ => ?_), hh, Mem.le_trans h.ext hM, fun p h1 h2 => ?_, ρ2, ω2, ?_⟩
  · obtain ⟨p, e1, _⟩ := hS1 k q e
    rcases hO.new _ _ e1 with h3 | h3
    · exact h3
    · omega
  · by_cases e : M p = none
    · rcases hfr p e h2 with ⟨q, e1⟩ | h3
      · obtain ⟨p', e2, _⟩ := hS1 _ q e1
        exact hO.new _ _ e2
      · exact .inr (Nat.le_trans h.ch.size h3)
    · exact h.fresh p h1 e
  · refine hO.step (ks := [(b, false)]) (fun p hp => ?_) hM hch.size (fun s hs => ?_) (fun c hc => ?_) (fun k p e => ?_) (fun p q e => ?_) (fun c l hc hl' hB => ?_)
    · refine ⟨(b, false), by simp, ?_⟩
      by_cases e : p.root = b
      · cases p with
        | r x =>
          simp only [Pa.root] at e
          subst e
          exact absurd hrb hp
        | n x i off =>
          simp only [Pa.root] at e
          subst e
          simp [mentP]
      · exact absurd (r2 p e) hp
    · by_cases e : dst = some s
      · right
        have hst := ht s e
        subst e
        have e1 : eff (valW (some s) d ++ [(b, .blk sz es')]) [(b, false)] f s = d := eff_at (by simp [valW])
        refine .inr ⟨v, getElem?_put_same (by rw [h.size]; exact hst), ?_⟩
        rw [e1]
        exact RepV.of_pure hv
      · left
        rcases eff_slot (f := f) (ks := [(b, false)]) (lk s (by omega) e) with h1 | h1
        · exact .inl h1
        · refine .inr ⟨h1.1, ?_, h1.2⟩
          cases dst with
          | none => rfl
          | some t => exact getElem?_put (fun x => e (by rw [x]))
    · by_cases e : c = b
      · subst e
        right
        refine .inl ⟨sz, es', hfb, hl.rows.carry (Mem.le_refl _) (fun p hp => ?_)⟩
        have e1 : ρ2 (p.to c) = ρ' p := by rw [r1 _ (Pa.to_root _ _), Pa.to_to lentB c p hp]
        exact ⟨e1, fun e2 => ⟨o1 _ _ e2, rfl⟩⟩
      · left
        rcases eff_root (f := f) (ks := [(b, false)]) (lk c e (fun x => by have := ht c x; have := h.hnt; omega)) with h1 | h1
        · exact .inl h1
        · refine .inr ⟨h1, fun p hp => ?_⟩
          have hpb : p.root ≠ b := by rw [hp]; exact e
          exact ⟨r2 p hpb, fun hw => ⟨o2 _ _ hw hpb, (other _ _ hw hpb).2.2⟩⟩
    · rcases o3 k p e with ⟨q, e1, _⟩ | ⟨e1, _⟩
      · rcases hnew k q e1 with ⟨q', e2⟩ | h2
        · obtain ⟨p', e3, _⟩ := hS1 k q' e2
          exact .inl ⟨p', e3⟩
        · exact .inr ⟨hl.lt k q e1, .inr (Nat.le_trans h.ch.size h2)⟩
      · exact .inl ⟨p, e1⟩
    · rcases o3 _ q e with ⟨q', e1, _⟩ | ⟨e1, e2⟩
      · exact hl.apart p q' e1
      · have h1 := hO.apart p q e1
        cases e3 : M' p with
        | none => rfl
        | some u =>
          rcases hfr p h1 (by rw [e3]; simp) with ⟨q', e4⟩ | h4
          · exact absurd e4 ((other _ _ e1 e2).1 q')
          · have := hO.lt _ _ e1; omega
    · by_cases e : c = b
      · subst e
        exact ⟨hrb, by rw [hf]; rfl⟩
      · have hcb : (Pa.r c).root ≠ b := e
        refine ⟨r2 _ hcb, ?_⟩
        rcases eff_root (f := f) (ks := [(b, false)]) (lk c e (fun x => by have := ht c x; have := h.hnt; omega)) with h1 | h1
        · rw [hB] at h1; cases h1
        · rw [← h1]; exact hB
theorem snd_callL (hC : CSound P F C) (h : SR F nt S L w0 M0 f M a w) (hp : ∀ t, o.dst = some t → t < nt) {g fi : Nat} {x : Opd} {xs : List Opd} {y : Operand} {ys : List Operand} {ts : Array TypeId} (ho : o.op = .call { callee := .value (.func fi), args := ⟨y :: ys⟩, argTypes := ts }) (hx0 : opdOk F x y = true) (hx : opdsOk F xs ys = true)
    (hg : F g = some fi) (hr : match vd f x with
    | .adr (.r b) i off => i = 0 ∧ off = 0 ∧ match f b with
      | .blk sz es => 0 < es.length ∧ (∀ x ∈ xs, isV (vd f x) = true) ∧ ∃ d, ∃ es' : List (List D), 0 < es'.length ∧ C g (.blk sz es :: xs.map (vd f)) d [.blk sz es'] ∧ K (valW o.dst d ++ [(b, .blk sz es')]) [(b, false)]
      | _ => False
    | _ => False) : o.wp P a w (PostX F nt S L w0 M0 f K) Q := by
  split at hr
  · rename_i b i off hvx
    obtain ⟨rfl, rfl, hr⟩ := hr
    split at hr
    · rename_i sz es hf
      obtain ⟨hpos, hxs, d, es', hpos', hc, hK⟩ := hr
      have hrun : (execOp a.eval o).run P w = (callFunc fi (a.eval y :: ys.map a.eval).toArray).run P w := by
        simp only [execOp, ho, resolve, Act.eval, Deferred.ofValue, Sem.run_bind, Sem.run_pure, Result.andThen_ok, invoke]
        congr 2
        rw [Array.append_empty, Array.empty_append]
        apply Array.ext'
        simp
        cases y <;> simp [Act.eval]
      obtain ⟨ρ, ω, hO⟩ := h.own
      have hb := hO.big hf
      have hv := hO.opd hx0
      rw [hvx, repV_of rfl] at hv
      simp only [RepR, Nat.zero_mul, Nat.add_zero] at hv
      have hroot := hO.roots b sz es hb hf
      have hω : ω (ρ (.r b)).blk = some (.r b) := by
        rcases hroot with ⟨e0, _⟩ | ⟨hω, _⟩
        · rw [e0] at hpos; simp at hpos
        · exact hω
      have hrep : RepL F M (xs.map (vd f)) (ys.map a.eval) := by
        have h1 := opds_pure h hx (by rw [List.all_eq_true]; exact hxs)
        rwa [List.map_congr_left (g := vd f) fun x hx' => by unfold dpv; exact (dp_pure (hxs x hx')).1] at h1
      obtain ⟨ρ1, hρ1⟩ : ∃ ρ1 : Pa → Loc, ρ1 = fun p => ρ (p.to b) := ⟨_, rfl⟩
      obtain ⟨ω1, hω1⟩ : ∃ ω1 : Nat → Option Pa, ω1 = fun k => match ω k with
        | some p => if p.root = b then some (p.to lentB) else none
        | none => none := ⟨_, rfl⟩
      have w1 : ∀ k q, ω1 k = some q ↔ ∃ p : Pa, ω k = some p ∧ p.root = b ∧ q = p.to lentB := fun k q => by
        rw [hω1]
        simp only
        constructor
        · intro e
          split at e
          · rename_i p hp
            split at e
            · cases e; exact ⟨p, hp, by assumption, rfl⟩
            · cases e
          · cases e
        · rintro ⟨p, e1, e2, rfl⟩
          simp only [e1, if_pos e2]
      have p1 : ∀ p : Pa, p.root = b → ρ1 (p.to lentB) = ρ p := fun p hp => by
        rw [hρ1]
        simp only
        rw [Pa.to_to b lentB p hp]
      have lent : Lent F M w ρ1 ω1 lentB sz es := by
        refine ⟨(w1 _ _).2 ⟨.r b, ?_, rfl, rfl⟩, RootR.carry hroot (Mem.le_refl _) (fun p hp => ⟨p1 p hp, fun e => ⟨(w1 _ _).2 ⟨p, e, hp, rfl⟩, rfl⟩⟩), fun k p e => ?_, fun k p e => ?_, fun p q e => ?_⟩
        · have := p1 (.r b) rfl
          simp only [Pa.to] at this
          rw [this]; exact hω
        · obtain ⟨p', e1, _⟩ := (w1 _ _).1 e
          exact hO.lt _ _ e1
        · obtain ⟨p', _, _, rfl⟩ := (w1 _ _).1 e
          exact Pa.to_root _ _
        · obtain ⟨p', e1, _⟩ := (w1 _ _).1 e
          exact hO.apart p p' e1
      have hL := hC.runsL g fi sz es _ d es' hg hc M w _ ρ1 ω1 h.holds hrep lent
      have e1 : ρ1 (.r lentB) = ρ (.r b) := p1 (.r b) rfl
      rw [e1, ← hv] at hL
      unfold Oper.wp
      rw [hrun, callFunc_named (hC.body g fi hg), Oper.upon_enter]
      refine hL.mono ?_
      rintro e0 w' ⟨v, M', ρ', ω', rfl, q1, q2, q3, q4, q5, q6, q7, q8⟩
      exact ⟨_, _, M', hK, h.lend hO hf hb hω p1 w1 q1 q2 q3 q4 (by rw [q6, e1]) q7 q8 hp q5⟩
    · exact hr.elim
  · exact hr.elim
theorem zeroR_len {es : List (List D)} {k n : Nat} {zs : List D} (h : k + n ≤ es.length) : (zeroR es k n zs).length = es.length := by
  simp [zeroR]; omega
theorem zeroR_get {es : List (List D)} {k n : Nat} {zs : List D} (h : k + n ≤ es.length) (i : Nat) : (zeroR es k n zs)[i]? = if k ≤ i ∧ i < k + n then some zs else es[i]? := by
  unfold zeroR
  rw [List.append_assoc]
  have hl : (es.take k).length = k := by simp; omega
  by_cases h1 : i < k
  · rw [List.getElem?_append_left (by omega), List.getElem?_take_of_lt h1, if_neg (by omega)]
  · rw [List.getElem?_append_right (by omega), hl]
    by_cases h2 : i < k + n
    · rw [List.getElem?_append_left (by simp; omega), if_pos (by omega), List.getElem?_replicate, if_pos (by omega)]
    · rw [List.getElem?_append_right (by simp; omega), List.length_replicate, List.getElem?_drop, if_neg (by omega)]
      congr 1
      omega
theorem zeroR_mem {es : List (List D)} {k n : Nat} {zs e : List D} (he : e ∈ zeroR es k n zs) : e = zs ∨ e ∈ es := by
  simp only [zeroR, List.mem_append] at he
  rcases he with (h | h) | h
  · exact .inr (List.mem_of_mem_take h)
  · exact .inl (List.mem_replicate.1 h).2
  · exact .inr (List.mem_of_mem_drop h)
def clrOk (P : Program) (T : Nat) (zs : List D) : Bool := match P.underlying T with
  | some (.slice e) => zeroOk P e zs
  | _ => false
theorem zeroCells_get {z : Array Value} {n i off : Nat} {u : Value} (hi : i < n) (ho : z.toList[off]? = some u) : (Builtin.zeroCells z n).toList[i * z.size + off]? = some u := by
  have h1 : off < z.size := by have := (List.getElem?_eq_some_iff.1 ho).1; simpa using this
  have h2 : i * z.size + z.size ≤ n * z.size := by rw [← Nat.succ_mul]; exact Nat.mul_le_mul_right _ hi
  have h3 : (i * z.size + off) % z.size = off := by
    rw [Nat.mul_comm, Nat.mul_add_mod, Nat.mod_eq_of_lt h1]
  unfold Builtin.zeroCells
  rw [Array.toList_map, List.getElem?_map]
  rw [Array.toList_range, List.getElem?_range (show i * z.size + off < n * z.size by omega), Option.map_some, h3]
  rw [getElem!_pos z off h1]
  have := (List.getElem?_eq_some_iff.1 ho).2
  rw [← this]; simp
theorem run_clear {T : Nat} {ty : TypeId} {zs : List D} (hk : clrOk P T zs = true) (hz1 : ∀ c ∈ zs, isC1 c = true) {g o n cap : Nat} {cur : List Value} {T0 : TypeId} (hn : n ≠ 0) (hg : w.heap[g]? = some (.cells cur.toArray T0 (0, 0))) (hgl : g < w.heap.size) (hl : o + n * zs.length ≤ cur.length) :
    ∃ (w' : World) (Z : List Value), (Builtin.clear_ #[T] ty #[.slice (some ⟨g, o, none⟩) n cap]).run P w = .ok (.tuple #[]) w' ∧ w'.heap[g]? = some (.cells (cur.take o ++ Z ++ cur.drop (o + n * zs.length)).toArray T0 (0, 0)) ∧ Z.length = n * zs.length ∧
      (∀ i off c, i < n → zs[off]? = some c → ∃ u, Z[i * zs.length + off]? = some u ∧ ∀ (F : Fid) (M : Mem), RepC F M c u) ∧ Ch (fun k => k = g) w w' := by
  unfold clrOk at hk
  split at hk
  · rename_i e hu
    obtain ⟨z, i, hi, hiz, hz, hzs, hzc⟩ := zeroOk_z hk
    have hcell : ∀ (off : Nat) (c : D), zs[off]? = some c → ∃ u, z.cells.toList[off]? = some u ∧ u.oneCell' = true ∧ ∀ (F : Fid) (M : Mem), RepC F M c u := fun off c hc => by
      have h1 : off < z.cells.toList.length := by have := (List.getElem?_eq_some_iff.1 hc).1; simp; omega
      have h2 : ∀ (F : Fid) (M : Mem), RepC F M c (z.cells.toList[off]) := fun F M => by
        rcases hzc off c _ hc (List.getElem?_eq_getElem h1) (F := F) (L := fun _ => none) (New := fun _ => True) (f := fun _ => .any) (M := M) (a := { tmps := #[], defers := [] }) (w := w) with ⟨_, h3⟩ | ⟨n, rfl, _⟩ | ⟨_, _, _, h3, _⟩
        · exact h3
        · have := hz1 _ (List.mem_of_getElem? hc); simp [isC1] at this
        · cases h3
      exact ⟨_, List.getElem?_eq_getElem h1, oneCell_of (h2 ⟨P, fun _ => none, fun _ => 0⟩ (fun _ => none)) (hz1 _ (List.mem_of_getElem? hc)), h2⟩
    have hone : ∀ v ∈ (Builtin.zeroCells z.cells n).toList, v.oneCell' = true := fun v hv => by
      simp only [Builtin.zeroCells, Array.toList_map, List.mem_map] at hv
      obtain ⟨x, hx, rfl⟩ := hv
      have hx' : x < n * z.cells.size := by simpa using hx
      have hpos : 0 < z.cells.size := by
        rcases Nat.eq_zero_or_pos z.cells.size with h | h
        · rw [h] at hx'; simp at hx'
        · exact h
      have hlt := Nat.mod_lt x hpos
      obtain ⟨u, k1, k2, _⟩ := hcell (x % z.cells.size) (zs[x % z.cells.size]'(by rw [← hzs]; exact hlt)) (List.getElem?_eq_getElem _)
      rw [getElem!_pos z.cells _ hlt]
      have : z.cells[x % z.cells.size] = u := by
        have := (List.getElem?_eq_some_iff.1 k1).2
        simpa using this
      rw [this]; exact k2
    have hZ : (Builtin.zeroCells z.cells n).toList.length = n * zs.length := by
      simp [Builtin.zeroCells, hzs]
    obtain ⟨w', e1, e2, e3, e4, e5, e6, e7, e8⟩ := run_storeCells_mid (P := P) g T0 o (Builtin.zeroCells z.cells n).toList 0 cur w hg (by rw [hZ]; simpa using hl) hone
    refine ⟨w', (Builtin.zeroCells z.cells n).toList, ?_, ?_, hZ, fun i off c hin hc => ?_, ⟨e5, e6, e7, by omega, fun k _ hk => e3 k hk, by omega⟩⟩
    · have hu' : (underlying T).run P w = .ok (.slice e) w := run_underlying hu w
      unfold Builtin.clear_
      simp only [List.getElem?_toArray, List.getElem?_cons_zero, Sem.run_bind, hu', Result.andThen_ok]
      cases n with
      | zero => exact absurd rfl hn
      | succ n => simp only [hz, Result.andThen_ok, e1, Sem.run_pure]
    · rw [e2]; simp only [Nat.add_zero, hZ]
    · obtain ⟨u, k1, _, k3⟩ := hcell off c hc
      exact ⟨u, by rw [← hzs]; exact zeroCells_get hin k1, k3⟩
  · cases hk
theorem clear_rep {base k n sz : Nat} {es : List (List D)} {zs : List D} {us Z : List Value} {R : D → Value → Prop} (hkn : k + n ≤ es.length) (hzs : zs.length = sz) (hes : ∀ e ∈ es, e.length = sz) (hlen : base + es.length * sz ≤ us.length) (hZl : Z.length = n * sz) (hZ : ∀ i off c, i < n → zs[off]? = some c → ∃ u, Z[i * sz + off]? = some u ∧ R c u)
    (hold : ∀ i r off d, es[i]? = some r → r[off]? = some d → ∃ u, us[base + i * sz + off]? = some u ∧ R d u) : ∀ i r off d, (zeroR es k n zs)[i]? = some r → r[off]? = some d → ∃ u, (us.take (base + k * sz) ++ Z ++ us.drop (base + k * sz + n * sz))[base + i * sz + off]? = some u ∧ R d u := by
  intro i r off d h1 h2
  have hle : k * sz + n * sz ≤ es.length * sz := by rw [← Nat.add_mul]; exact Nat.mul_le_mul_right _ hkn
  have hget := fun x => splice_get (vs := us) (us := Z) (q := base + k * sz) (n := n * sz) (x := x) hZl (by omega)
  rw [zeroR_get hkn] at h1
  split at h1
  · rename_i hi
    cases h1
    have ho : off < sz := by have := (List.getElem?_eq_some_iff.1 h2).1; omega
    obtain ⟨u, k1, k2⟩ := hZ (i - k) off d (by omega) h2
    refine ⟨u, ?_, k2⟩
    have e1 : i * sz = k * sz + (i - k) * sz := by rw [← Nat.add_mul]; congr 1; omega
    have e2 : (i - k) * sz + sz ≤ n * sz := by rw [← Nat.succ_mul]; exact Nat.mul_le_mul_right _ (by omega)
    rw [hget, if_pos (by omega), ← k1]
    congr 1
    omega
  · rename_i hi
    have ho : off < sz := by have := (List.getElem?_eq_some_iff.1 h2).1; have := hes r (List.mem_of_getElem? h1); omega
    obtain ⟨u, k1, k2⟩ := hold i r off d h1 h2
    refine ⟨u, ?_, k2⟩
    rw [hget, if_neg, k1]
    intro hx
    by_cases hik : i < k
    · have : i * sz + sz ≤ k * sz := by rw [← Nat.succ_mul]; exact Nat.mul_le_mul_right _ hik
      omega
    · have : k * sz + n * sz ≤ i * sz := by rw [← Nat.add_mul]; exact Nat.mul_le_mul_right _ (by omega)
      omega
theorem eff_same {b : Nat} {x : D} (h : f b = x) (hx : isB x = true) : eff [(b, x)] [] f = f := by
  funext s
  unfold eff
  by_cases e : s = b
  · subst e; simp [h]
  · have e1 : (s == b) = false := by simpa using e
    simp [List.lookup_cons, e1, mentL]
theorem snd_clr (h : SR F nt S L w0 M0 f M a w) (hp : ∀ t, o.dst = some t → t < nt) {zs : List D} {x : Opd} {y : Operand} {T : TypeId} (ho : o.op = .call { callee := .builtin .clear, args := #[y], argTypes := #[T] }) (hx : opdOk F x y = true) (hk : clrOk P T zs = true)
    (hr : match vd f x with
    | .nils => K (unitW o.dst) []
    | .ref (.r b) k n => match f b with
      | .blk sz es => k + n ≤ es.length ∧ zs.length = sz ∧ (∀ e ∈ es, ∀ c ∈ e, isC1 c = true) ∧ (∀ c ∈ zs, isC1 c = true) ∧ K (unitW o.dst ++ [(b, .blk sz (zeroR es k n zs))]) []
      | _ => False
    | .ref (.n b i o') k n => match f b with
      | .blk sz0 es0 => ∃ row0, es0[i]? = some row0 ∧ ∃ sz es, row0[o']? = some (.own sz es) ∧ k + n ≤ es.length ∧ zs.length = sz ∧ (∀ c ∈ zs, isC1 c = true) ∧ K (unitW o.dst ++ [(b, .blk sz0 (setC es0 i o' 1 [.own sz (zeroR es k n zs)]))]) []
      | _ => False
    | _ => False) : o.wp P a w (PostX F nt S L w0 M0 f K) Q := by
  obtain ⟨ρ, ω, hO⟩ := h.own
  have hv := hO.opd hx
  have exec : ∀ v w', (Builtin.clear_ #[T] o.type #[a.eval y]).run P w = .ok v w' → (execOp a.eval o).run P w = .ok (.value v) w' := fun v w' e => by
    simp only [execOp, ho, resolve, invoke, builtin, List.map_toArray, List.map_cons, List.map_nil, Sem.run_bind, Sem.run_pure, Result.andThen_ok, e]
  have noop : ∀ v : Value, (v = .slice none 0 0 ∨ ∃ A cap, v = .slice A 0 cap) → a.eval y = v → (underlying T).run P w = .ok (match P.underlying T with | some u => u | none => default) w → (execOp a.eval o).run P w = .ok (.value (.tuple #[])) w := by
    intro v hv' e hu
    refine exec _ _ ?_
    rw [e]
    unfold Builtin.clear_
    simp only [List.getElem?_toArray, List.getElem?_cons_zero, Sem.run_bind, hu, Result.andThen_ok]
    rcases hv' with rfl | ⟨A, cap, rfl⟩
    · simp
    · cases A <;> simp
  have hu : (underlying T).run P w = .ok (match P.underlying T with | some u => u | none => default) w := by
    unfold clrOk at hk
    split at hk
    · rename_i e hu
      rw [run_underlying hu w, hu]
    · cases hk
  have unit : ∀ (b : Nat) (x : D) (M' : Mem) (w' : World), SR F nt S L w0 M0 (eff [(b, x)] [] f) M' a w' → SR F nt S L w0 M0 (eff (unitW o.dst ++ [(b, x)]) [] f) M' (a.put o.dst (.tuple #[])) w' := fun b x M' w' hs => by
    rw [← eff_unit]
    cases hd : o.dst with
    | none => simpa [Act.put] using hs
    | some t => exact hs.put (hp t hd) fun _ _ _ => by rw [repV_of rfl]; simp [RepR, RepC, RepL]
  split at hr
  · rename_i hvx
    rw [hvx, repV_of rfl] at hv
    simp only [RepR, RepC] at hv
    refine wp_value (noop _ (.inl rfl) hv hu) ⟨_, _, M, hr, ?_⟩
    cases hd : o.dst with
    | none => simpa [Act.put, unitW, eff_nil] using h
    | some t => exact h.put (hp t hd) fun _ _ _ => by rw [repV_of rfl]; simp [RepR, RepC, RepL]
  · rename_i b k n hvx
    rw [hvx, repV_of rfl] at hv
    split at hr
    · rename_i sz es hf
      obtain ⟨hkn, hzs, hes1, hz1, hK⟩ := hr
      have hb := hO.big hf
      have hgp : getP f (.r b) = some (sz, es) := by simp [getP, hf]
      by_cases hn : n = 0
      · subst hn
        have e0 : zeroR es k 0 zs = es := by simp [zeroR]
        rw [e0] at hK
        have hv' : ∃ A cap, a.eval y = .slice A 0 cap := by
          simp only [RepR] at hv
          rcases hv with ⟨_, A, e⟩ | ⟨cap, e, _⟩
          · exact ⟨A, 0, e⟩
          · exact ⟨_, cap, e⟩
        refine wp_value (noop _ (.inr hv') rfl hu) ⟨_, _, M, hK, unit b _ M w ?_⟩
        rw [eff_same hf rfl]; exact h
      · rcases given hO hgp hkn hv (fun e he c hc => isC1_isO (hes1 e (List.mem_of_mem_drop (List.mem_of_mem_take he)) c hc)) with ⟨A, hv, hn0⟩ | ⟨cap, us, T0, hv, ⟨hcap, hmc⟩, hcl, hω, g0, g1, g2, g4, g5⟩
        · exact absurd hn0 hn
        · have hrows : Rows w (ρ (.r b)) sz es (fun i off d v => CellR F M ω ρ w b i off d v) := by
            rcases hO.roots b sz es hb hf with ⟨e0, _⟩ | ⟨_, hr⟩
            · rw [e0] at hkn; simp at hkn; omega
            · exact hr
          obtain ⟨q0, us0, T1, q1, q2, q3, q4, q5⟩ := id hrows
          rw [g1] at q1
          simp only [Option.some.injEq, Obj.cells.injEq, and_true] at q1
          obtain ⟨q1, rfl⟩ := q1
          obtain rfl : us = us0 := by simpa using congrArg Array.toList q1
          have hle : k * sz + n * sz ≤ es.length * sz := by rw [← Nat.add_mul]; exact Nat.mul_le_mul_right _ hkn
          obtain ⟨w', Z, e1, e2, e3, e4, e5⟩ := run_clear (P := P) (w := w) (ty := o.type) hk hz1 hn (cap := cap) g1 (hO.lt _ _ hω) (o := (ρ (.r b)).base + k * sz) (by rw [hzs, g2]; omega)
          rw [hzs] at e2 e3 e4
          have hfill := h.fill hO hf hω hrows (es' := zeroR es k n zs) (us := us.take ((ρ (.r b)).base + k * sz) ++ Z ++ us.drop ((ρ (.r b)).base + k * sz + n * sz)) (w' := w') (Nat.le_of_eq (zeroR_len hkn)) (fun e he => by
            rcases zeroR_mem he with rfl | he
            · exact ⟨hzs, hz1⟩
            · exact ⟨g4 e he, hes1 e he⟩) e5 e2 (by simp; omega) (clear_rep (R := fun d v => RepC F M d v) hkn hzs g4 (by rw [g2]; exact q3) e3 (fun i off c hi hc => by
              obtain ⟨u, k1, k2⟩ := e4 i off c hi hc
              exact ⟨u, k1, k2 F M⟩) (fun i r off d h1 h2 => by
              obtain ⟨u, k1, k2⟩ := q5 i r off d h1 h2
              rw [isC1_CellR (isC1_isO (hes1 r (List.mem_of_getElem? h1) d (List.mem_of_getElem? h2)))] at k2
              exact ⟨u, k1, k2⟩))
          obtain ⟨_, _, _, _, hs⟩ := hfill
          refine wp_value (exec _ _ (by rw [hv]; exact e1)) ⟨_, _, M, hK, unit b _ M w' hs⟩
    · exact hr.elim
  · rename_i b i0 o0 k n hvx
    rw [hvx, repV_of rfl] at hv
    split at hr
    · rename_i sz0 es0 hf
      obtain ⟨row0, hi0, sz, es, ho0, hkn, hzs, hz1, hK⟩ := hr
      have hb := hO.big hf
      have hgp : getP f (.n b i0 o0) = some (sz, es) := by simp [getP, hf, hi0, ho0]
      have hpath : PathR ω ρ w (.n b i0 o0) sz es (fun _ _ d v => RepC F M d v) := (hO.get (p := .n b i0 o0) hb hgp).1
      have hnoO : ∀ e ∈ (es.drop k).take n, ∀ c ∈ e, isO c = false := by
        intro e he c hc'
        have he := List.mem_of_mem_drop (List.mem_of_mem_take he)
        rcases hpath with ⟨e0, _⟩ | ⟨_, _, vs, T, _, _, _, _, h5⟩
        · rw [e0] at he; cases he
        · obtain ⟨i, hi⟩ := List.mem_iff_getElem?.1 he
          obtain ⟨j, hj⟩ := List.mem_iff_getElem?.1 hc'
          obtain ⟨u, _, h6⟩ := h5 i e j c hi hj
          cases c <;> first | rfl | (simp [RepC] at h6)
      by_cases hn : n = 0
      · subst hn
        have e0 : zeroR es k 0 zs = es := by simp [zeroR]
        rw [e0] at hK
        have hv' : ∃ A cap, a.eval y = .slice A 0 cap := by
          simp only [RepR] at hv
          rcases hv with ⟨_, A, e⟩ | ⟨cap, e, _⟩
          · exact ⟨A, 0, e⟩
          · exact ⟨_, cap, e⟩
        refine wp_value (noop _ (.inr hv') rfl hu) ⟨_, _, M, hK, unit b _ M w (h.fillN hO hf hi0 ho0 rfl h.ch (Nat.le_refl _) h.holds hpath (fun _ _ _ _ => rfl))⟩
      · rcases given hO hgp hkn hv hnoO with ⟨A, hv, hn0⟩ | ⟨cap, us, T0, hv, ⟨hcap, hmc⟩, hcl, hω, g0, g1, g2, g4, g5⟩
        · exact absurd hn0 hn
        · have hrows : Rows w (ρ (.n b i0 o0)) sz es (fun _ _ d v => RepC F M d v) := by
            rcases hpath with ⟨e0, _⟩ | ⟨_, hr⟩
            · rw [e0] at hkn; simp at hkn; omega
            · exact hr
          obtain ⟨q0, us0, T1, q1, q2, q3, q4, q5⟩ := id hrows
          rw [g1] at q1
          simp only [Option.some.injEq, Obj.cells.injEq, and_true] at q1
          obtain ⟨q1, rfl⟩ := q1
          obtain rfl : us = us0 := by simpa using congrArg Array.toList q1
          have hle : k * sz + n * sz ≤ es.length * sz := by rw [← Nat.add_mul]; exact Nat.mul_le_mul_right _ hkn
          obtain ⟨w', Z, e1, e2, e3, e4, e5⟩ := run_clear (P := P) (w := w) (ty := o.type) hk hz1 hn (cap := cap) g1 (hO.lt _ _ hω) (o := (ρ (.n b i0 o0)).base + k * sz) (by rw [hzs, g2]; omega)
          rw [hzs] at e2 e3 e4
          have hnew := hO.new _ _ hω
          have hMb : ∀ p : Addr, p.block = (ρ (.n b i0 o0)).blk → M p = none := fun p hp => hO.apart p (.n b i0 o0) (by rw [hp]; exact hω)
          have hh : ∀ p v, M p = some v → w'.cell? p = some v := fun p v hp => by
            have hne : p.block ≠ (ρ (.n b i0 o0)).blk := fun e => by rw [hMb p e] at hp; cases hp
            have h8 := h.holds p v hp
            rw [World.cell?_of_block (e5.block _ (World.block_lt_of_cell? w p h8) hne)]
            exact h8
          refine wp_value (exec _ _ (by rw [hv]; exact e1)) ⟨_, _, M, hK, unit b _ M w' (h.fillN hO hf hi0 ho0 (zeroR_len hkn) (h.ch.trans e5 (fun k hk e => by rcases hnew with h7 | h7; rw [e]; exact h7; omega)) e5.size hh (.inr ⟨hω, g0, _, T0, e2, by simp; omega, by rw [zeroR_len hkn]; exact q3, fun e he => by
            rcases zeroR_mem he with rfl | he
            · exact hzs
            · exact g4 e he, clear_rep (R := fun d v => RepC F M d v) hkn hzs g4 (by rw [g2]; exact q3) e3 (fun i off c hi hc => by
              obtain ⟨u, k1, k2⟩ := e4 i off c hi hc
              exact ⟨u, k1, k2 F M⟩) q5⟩) (fun k q hk hq => e5.block k (hO.lt _ _ hk) (by rintro rfl; rw [hω] at hk; cases hk; exact hq rfl)))⟩
    · exact hr.elim
  · exact hr.elim
end
end Go.Gv

namespace Go.Gv
open Go.RowKit
section
variable {P : Program} {F : Fid} {C : Nat → List D → D → List D → Prop} {nt : Nat} {S : Nat → Prop} {L : Nat → Option Loc} {w0 : World} {M0 : Mem} {f : Nat → D} {M M' : Mem} {a : Act} {w w' : World} {o : Oper} {d : D} {Q : Exit → Act → World → Prop} {ρ ρ' : Pa → Loc} {ω ω' : Nat → Option Pa} {New : Nat → Prop} {K : List (Nat × D) → List (Nat × Bool) → Prop}
theorem mentP_root' (p : Pa) : mentP p.root true p = true := by cases p <;> simp [mentP, Pa.root]
theorem hostR1_mem {t i b : Nat} {x d : D} (h : (b, x) ∈ hostR1 t i d) : b = rt t i ∧ ∃ sz es, x = .blk sz es ∧ ∀ t', (rt t' i, x) ∈ hostR1 t' i d := by
  cases d <;> simp only [hostR1, List.mem_cons, List.not_mem_nil, or_false, Prod.mk.injEq] at h
  all_goals exact ⟨h.1, _, _, h.2, fun t' => by rw [h.2]; simp [hostR1]⟩
theorem hostRL_mem {t b : Nat} {x : D} : ∀ {ds : List D} {i : Nat}, (b, x) ∈ hostRL t i ds → ∃ j, i ≤ j ∧ j < i + ds.length ∧ b = rt t j ∧ ∃ sz es, x = .blk sz es ∧ ∀ t', (rt t' j, x) ∈ hostRL t' i ds
  | [], _, h => by simp [hostRL] at h
  | d :: ds, i, h => by
    simp only [hostRL, List.mem_append] at h
    rcases h with h | h
    · obtain ⟨e, sz, es, e2, h2⟩ := hostR1_mem h
      exact ⟨i, Nat.le_refl _, by simp, e, sz, es, e2, fun t' => by simp only [hostRL, List.mem_append]; exact .inl (h2 t')⟩
    · obtain ⟨j, h1, h2, e, sz, es, e2, h3⟩ := hostRL_mem h
      exact ⟨j, by omega, by simp; omega, e, sz, es, e2, fun t' => by simp only [hostRL, List.mem_append]; exact .inr (h3 t')⟩
theorem hostRL_uniq {t b : Nat} {x y : D} : ∀ {ds : List D} {i : Nat}, (b, x) ∈ hostRL t i ds → (b, y) ∈ hostRL t i ds → x = y
  | [], _, h, _ => by simp [hostRL] at h
  | d :: ds, i, h, h' => by
    simp only [hostRL, List.mem_append] at h h'
    have far : ∀ {z : D}, (b, z) ∈ hostRL t (i + 1) ds → b ≠ rt t i := fun hz e => by
      obtain ⟨j, h1, _, e2, _⟩ := hostRL_mem hz
      rw [e] at e2
      unfold rt at e2
      omega
    rcases h with h | h <;> rcases h' with h' | h'
    · cases d <;> simp only [hostR1, List.mem_cons, List.not_mem_nil, or_false, Prod.mk.injEq] at h h'
      all_goals rw [h.2, h'.2]
    · exact absurd (hostR1_mem h).1 (far h')
    · exact absurd (hostR1_mem h').1 (far h)
    · exact hostRL_uniq h h'
theorem lkMem {b : Nat} {x : D} : ∀ {l : List (Nat × D)}, (∀ y, (b, y) ∈ l → y = x) → (b, x) ∈ l → l.lookup b = some x
  | [], _, h => by simp at h
  | (c, y) :: l, hu, h => by
    by_cases e : b = c
    · subst e
      rw [hu y (by simp)]
      simp
    · have e1 : (b == c) = false := by simpa using e
      simp only [List.lookup_cons, e1]
      refine lkMem (fun y hy => hu y (by simp [hy])) ?_
      rcases List.mem_cons.1 h with h | h
      · cases h; exact absurd rfl e
      · exact h
theorem lkNone {b : Nat} : ∀ {l : List (Nat × D)}, (∀ y, (b, y) ∉ l) → l.lookup b = none
  | [], _ => rfl
  | (c, y) :: l, h => by
    have e : b ≠ c := fun e => h y (by simp [e])
    have e1 : (b == c) = false := by simpa using e
    simp only [List.lookup_cons, e1]
    exact lkNone fun y hy => h y (by simp [hy])
theorem hostP_rep {t i : Nat} {d : D} {v : Value} (h : RepR F M ρ (hostP 0 i d) v) (he : ∀ x, (rt 0 i, x) ∈ hostR1 0 i d → ρ' (.r (rt t i)) = ρ (.r (rt 0 i))) (hp : ∀ p k n, d ≠ .ref p k n) (hp2 : ∀ p k n, d ≠ .adr p k n) (hp3 : ∀ b, d ≠ .mrf b) : RepR F M ρ' (hostP t i d) v := by
  cases d
  case own sz es =>
    have e := he (.blk sz es) (by simp [hostR1])
    simp only [hostP, RepR] at h ⊢
    rw [e]; exact h
  case blk sz es =>
    have e := he (.blk sz es) (by simp [hostR1])
    simp only [hostP, RepR] at h ⊢
    rw [e]; exact h
  case ref p k n => exact absurd rfl (hp p k n)
  case adr p k n => exact absurd rfl (hp2 p k n)
  case mrf b => exact absurd rfl (hp3 b)
  all_goals exact h
theorem hostL_rep {t : Nat} : ∀ {ds : List D} {i : Nat} {vs : List Value}, RepRL F M ρ (hostL 0 i ds) vs → (∀ j x, (rt 0 j, x) ∈ hostRL 0 i ds → ρ' (.r (rt t j)) = ρ (.r (rt 0 j))) → (∀ d ∈ ds, okPd d = true) → RepRL F M ρ' (hostL t i ds) vs
  | [], i, vs, h, _, _ => ⟨by simpa [hostL] using h.1, fun j d v h1 => by simp [hostL] at h1⟩
  | d :: ds, i, [], h, _, _ => by have := h.1; simp [hostL] at this
  | d :: ds, i, v :: vs, h, he, hk => by
    have hd := hk d (by simp)
    have ih := hostL_rep (t := t) (ds := ds) (i := i + 1) (vs := vs) ⟨by have := h.1; simpa [hostL] using this, fun j d' v' h1 h2 => h.2 (j + 1) d' v' (by simpa [hostL] using h1) (by simpa using h2)⟩ (fun j x hx => he j x (by simp only [hostRL, List.mem_append]; exact .inr hx)) (fun d' hd' => hk d' (by simp [hd']))
    refine ⟨by have := ih.1; simp [hostL, this], fun j d' v' h1 h2 => ?_⟩
    cases j with
    | zero =>
      simp only [hostL, List.getElem?_cons_zero, Option.some.injEq] at h1 h2
      subst h1 h2
      exact hostP_rep (h.2 0 _ _ (by simp [hostL]) rfl) (fun x hx => he i x (by simp only [hostRL, List.mem_append]; exact .inl hx)) (fun p k n e => by rw [e] at hd; cases hd) (fun p k n e => by rw [e] at hd; cases hd) (fun b e => by rw [e] at hd; cases hd)
    | succ j => exact ih.2 j d' v' (by simpa [hostL] using h1) (by simpa using h2)
theorem hostR_mem {t b : Nat} {x R : D} (hok : okR R = true) (h : (b, x) ∈ hostR t R) : ∃ j, 1 ≤ j ∧ j ≤ 14 ∧ b = rt t j ∧ ∃ sz es, x = .blk sz es ∧ ∀ t', (rt t' j, x) ∈ hostR t' R := by
  obtain ⟨j, h1, h2, h3, h4⟩ := hostRL_mem h
  refine ⟨j, h1, ?_, h3, h4⟩
  have : (partsR R).length ≤ 14 := by
    cases R <;> simp only [okR, Bool.and_eq_true, decide_eq_true_eq, Bool.false_eq_true] at hok <;> first | exact hok.1 | simp [partsR]
  omega
theorem okR_parts {R : D} (hok : okR R = true) : ∀ d ∈ partsR R, okPd d = true := by
  cases R <;> simp only [okR, Bool.and_eq_true, Bool.false_eq_true, List.all_eq_true] at hok <;> first | exact hok.2 | (intro d hd; simp only [partsR, List.mem_cons, List.not_mem_nil, or_false] at hd; subst hd; rfl)
theorem snd_callA (hC : CSound P F C) (h : SR F nt S L w0 M0 f M a w) (hL : ∀ t i, i < 15 → L (rt t i) = none) {t : Nat} (hd : o.dst = some t) (ht : t < nt) {g fi : Nat} {xs : List Opd} {ys : Array Operand} {ts : Array TypeId} (ho : o.op = .call { callee := .value (.func fi), args := ys, argTypes := ts }) (hx : opdsOk F xs ys.toList = true)
    (hg : F g = some fi) (hr : (∀ x ∈ xs, isV (vd f x) = true) ∧ ∃ R, okR R = true ∧ C g (xs.map (vd f)) R [.nils] ∧ K ((t, hostD t R) :: hostR t R) (hostK t R)) : o.wp P a w (PostX F nt S L w0 M0 f K) Q := by
  obtain ⟨hxs, R, hok, hc, hK⟩ := hr
  have hrun : (execOp a.eval o).run P w = (callFunc fi (ys.toList.map a.eval).toArray).run P w := by
    simp only [execOp, ho, resolve, Act.eval, Deferred.ofValue, Sem.run_bind, Sem.run_pure, Result.andThen_ok, invoke]
    congr 2
    rw [Array.append_empty, Array.empty_append]
    apply Array.ext'
    simp
  have hrep : RepL F M (xs.map (vd f)) (ys.toList.map a.eval) := by
    have h1 := opds_pure h hx (by rw [List.all_eq_true]; exact hxs)
    rwa [List.map_congr_left (g := vd f) fun x hx' => by unfold dpv; exact (dp_pure (hxs x hx')).1] at h1
  obtain ⟨ρ, ω, hO⟩ := h.own
  have ht10 : t < 10000 := Nat.lt_of_lt_of_le ht h.hnt
  unfold Oper.wp
  rw [hrun, callFunc_named (hC.body g fi hg), Oper.upon_enter]
  refine (hC.runsA g fi _ R hg hc M w _ h.holds hrep).mono ?_
  rintro e w' ⟨v, M', ρ', ω', us, rfl, hb, hM, hfr, hh, hsh, hrl, hroot, hω', hap'⟩
  rw [hd]
  refine ⟨_, _, M', hK, ?_⟩
  have mem : ∀ b, ((hostR t R).any fun q => q.1 == b) = true ↔ ∃ x, (b, x) ∈ hostR t R := fun b => by
    simp only [List.any_eq_true, beq_iff_eq]
    constructor
    · rintro ⟨⟨c, x⟩, h1, rfl⟩; exact ⟨x, h1⟩
    · rintro ⟨x, h1⟩; exact ⟨(b, x), h1, rfl⟩
  obtain ⟨ρ2, hρ2⟩ : ∃ ρ2 : Pa → Loc, ρ2 = fun p => if ((hostR t R).any fun q => q.1 == p.root) = true then ρ' (p.to (p.root - 16 * t)) else ρ p := ⟨_, rfl⟩
  obtain ⟨ω2, hω2⟩ : ∃ ω2 : Nat → Option Pa, ω2 = fun k => match ω' k with
    | some q => some (q.to (q.root + 16 * t))
    | none => match ω k with
      | some p => if ((hostR t R).any fun q => q.1 == p.root) = true then none else some p
      | none => none := ⟨_, rfl⟩
  have r1 : ∀ p : Pa, (∃ x, (p.root, x) ∈ hostR t R) → ρ2 p = ρ' (p.to (p.root - 16 * t)) := fun p hp => by rw [hρ2]; simp only [(mem _).2 hp, if_true]
  have r2 : ∀ p : Pa, ¬ (∃ x, (p.root, x) ∈ hostR t R) → ρ2 p = ρ p := fun p hp => by
    rw [hρ2]
    have : ¬ ((hostR t R).any fun q => q.1 == p.root) = true := fun e => hp ((mem _).1 e)
    simp only [if_neg this]
  have o1 : ∀ k q, ω' k = some q → ω2 k = some (q.to (q.root + 16 * t)) := fun k q e => by rw [hω2]; simp only [e]
  have oldnew : ∀ k p q, ω k = some p → ω' k ≠ some q := fun k p q e e' => by
    have := hO.lt k p e
    have := (hω' k q e').1
    omega
  have o2 : ∀ k p, ω k = some p → ¬ (∃ x, (p.root, x) ∈ hostR t R) → ω2 k = some p := fun k p e hp => by
    have e1 : ω' k = none := by
      cases e2 : ω' k with
      | none => rfl
      | some q => exact absurd e2 (oldnew k p q e)
    have : ¬ ((hostR t R).any fun q => q.1 == p.root) = true := fun e => hp ((mem _).1 e)
    rw [hω2]; simp only [e1, e, if_neg this]
  have o3 : ∀ k p, ω2 k = some p → (∃ q, ω' k = some q) ∨ ω k = some p := fun k p e => by
    rw [hω2] at e
    simp only at e
    cases e1 : ω' k with
    | some q => exact .inl ⟨q, rfl⟩
    | none =>
      rw [e1] at e
      simp only at e
      cases e2 : ω k with
      | none => rw [e2] at e; cases e
      | some p' =>
        rw [e2] at e
        simp only at e
        split at e
        · cases e
        · cases e; exact .inr rfl
  have hshift : ∀ j x, (rt 0 j, x) ∈ hostR 0 R → ρ2 (.r (rt t j)) = ρ' (.r (rt 0 j)) := fun j x hx => by
    obtain ⟨j', h1, h2, h3, sz, es, h4, h5⟩ := hostR_mem hok hx
    have ej : j = j' := by unfold rt at h3; omega
    subst ej
    rw [r1 (.r (rt t j)) ⟨x, h5 t⟩]
    show ρ' (.r (rt t j - 16 * t)) = _
    have : rt t j - 16 * t = rt 0 j := by unfold rt; omega
    rw [this]
  have lkn : ∀ s, s ≠ t → ¬ (∃ x, (s, x) ∈ hostR t R) → ((t, hostD t R) :: hostR t R).lookup s = none := fun s h1 h2 => by
    have e1 : (s == t) = false := by simpa using h1
    simp only [List.lookup_cons, e1]
    exact lkNone fun y hy => h2 ⟨y, hy⟩
  have small : ∀ s, s < 10000 → ¬ (∃ x, (s, x) ∈ hostR t R) := fun s hs ⟨x, hx⟩ => by
    obtain ⟨j, _, _, h3, _⟩ := hostR_mem hok hx
    unfold rt at h3; omega
  refine ⟨h.hnt, by simp [Act.put, h.size], by simp [Act.put, h.defers], h.ch.trans (Ch.of_below hb (fun _ => False)) (fun _ _ e => e.elim), hh, Mem.le_trans h.ext hM, fun p h1 h2 => ?_, ρ2, ω2, hO.step (ks := hostK t R) (fun p hp => ?_) hM hb.size (fun s hs => ?_) (fun c hc => ?_) (fun k p e => ?_) (fun p q e => ?_) (fun c l hc hl hB => ?_)⟩
  · by_cases e : M p = none
    · exact .inr (Nat.le_trans h.ch.size (hfr p e h2))
    · exact h.fresh p h1 e
  · by_cases e : ∃ x, (p.root, x) ∈ hostR t R
    · obtain ⟨x, hx⟩ := e
      exact ⟨(p.root, true), List.mem_map.2 ⟨_, hx, rfl⟩, mentP_root' p⟩
    · exact absurd (r2 p e) hp
  · by_cases e : s = t
    · right
      subst e
      have e1 : eff ((s, hostD s R) :: hostR s R) (hostK s R) f s = hostD s R := eff_at (by simp)
      refine .inr ⟨v, getElem?_put_same (by rw [h.size]; exact ht), ?_⟩
      rw [e1]
      have hp := okR_parts hok
      cases R <;> simp only [okR, Bool.false_eq_true] at hok
      case agg ds => exact ⟨us, hsh, hostL_rep hrl (fun j x hx => hshift j x hx) hp⟩
      case tup ds => exact ⟨us, hsh, hostL_rep hrl (fun j x hx => hshift j x hx) hp⟩
      all_goals
        have h3 := hostL_rep (t := s) hrl (fun j x hx => hshift j x hx) hp
        simp only [shapeV] at hsh
        subst hsh
        have h4 := h3.2 0 _ v rfl rfl
        exact h4
    · left
      rcases eff_slot (f := f) (ks := hostK t R) (lkn s e (small s hs)) with h1 | h1
      · exact .inl h1
      · exact .inr ⟨h1.1, getElem?_put e, h1.2⟩
  · by_cases e : ∃ x, (c, x) ∈ hostR t R
    · obtain ⟨x, hx⟩ := e
      obtain ⟨j, h1, h2, h3, sz, es, rfl, h5⟩ := hostR_mem hok hx
      right
      have hct : (c == t) = false := by simp; omega
      have hlk : ((t, hostD t R) :: hostR t R).lookup c = some (.blk sz es) := by
        simp only [List.lookup_cons, hct]
        exact lkMem (fun y hy => (hostRL_uniq hx hy).symm) hx
      have ec : c - 16 * t = rt 0 j := by rw [h3]; unfold rt; omega
      have ec2 : rt 0 j + 16 * t = c := by rw [h3]; unfold rt; omega
      refine .inl ⟨sz, es, eff_at hlk, (hroot (rt 0 j) sz es (h5 0)).carry (Mem.le_refl _) (fun p hp => ?_)⟩
      refine ⟨?_, fun e2 => ⟨?_, rfl⟩⟩
      · rw [r1 _ ⟨_, by rw [Pa.to_root]; exact hx⟩, Pa.to_root, ec, Pa.to_to (rt 0 j) c p hp]
      · rw [o1 _ _ e2, hp, ec2]
    · left
      rcases eff_root (f := f) (ks := hostK t R) (lkn c (by omega) e) with h1 | h1
      · exact .inl h1
      · refine .inr ⟨h1, fun p hp => ?_⟩
        have hpe : ¬ (∃ x, (p.root, x) ∈ hostR t R) := by rw [hp]; exact e
        exact ⟨r2 p hpe, fun hw => ⟨o2 _ _ hw hpe, hb.block _ (hO.lt _ _ hw)⟩⟩
  · rcases o3 k p e with ⟨q, e1⟩ | e1
    · exact .inr ⟨(hω' k q e1).2.1, .inr (Nat.le_trans h.ch.size (hω' k q e1).1)⟩
    · exact .inl ⟨p, e1⟩
  · rcases o3 _ q e with ⟨q', e1⟩ | e1
    · exact hap' p q' e1
    · cases e3 : M' p with
      | none => rfl
      | some u =>
        have h1 := hfr p (hO.apart p q e1) (by rw [e3]; simp)
        have := hO.lt _ _ e1
        omega
  · by_cases e : ∃ x, (c, x) ∈ hostR t R
    · obtain ⟨x, hx⟩ := e
      obtain ⟨j, h1, h2, h3, _⟩ := hostR_mem hok hx
      rw [h3, hL t j (by omega)] at hl; cases hl
    · have hpe : ¬ (∃ x, ((Pa.r c).root, x) ∈ hostR t R) := e
      refine ⟨r2 _ hpe, ?_⟩
      rcases eff_root (f := f) (ks := hostK t R) (lkn c (by omega) e) with h1 | h1
      · rw [hB] at h1; cases h1
      · rw [← h1]; exact hB
end
end Go.Gv

namespace Go.Gv
section
variable {P : Program} {F : Fid} {C : Nat → List D → D → List D → Prop} {nt : Nat} {S : Nat → Prop} {L : Nat → Option Loc} {w0 : World} {M0 : Mem} {f : Nat → D} {M : Mem} {a : Act} {w : World} {o : Oper} {d : D} {Q : Exit → Act → World → Prop} {ρ : Pa → Loc} {ω : Nat → Option Pa} {New : Nat → Prop} {K : List (Nat × D) → List (Nat × Bool) → Prop}
theorem SR.frzS (h : SR F nt S L w0 M0 f M a w) {t : Nat} (ht : t < nt) {c : Nat} (hc : 10000 ≤ c) {cs : List D} {v : Value}
    (hv : ∀ ρ ω, Own F L (fun k => S k ∨ w0.heap.size ≤ k) f M a w ρ ω → RepC F (Mplus (onlyω ω c) M w) (.agg cs) v) :
    ∃ M', SR F nt S L w0 M0 (eff [(t, .agg cs), (c, .any)] [] f) M' (a.put (some t) v) w := by
  obtain ⟨ρ, ω, hO⟩ := h.own
  have hnt := h.hnt
  have hsz := h.size
  have hO1 := hO.only hc
  have hr := hv ρ ω hO
  have hle : M.le (Mplus (onlyω ω c) M w) := Mplus_le hO1
  have hE := hO.erase hc
  have hf' : ∀ s, eff [(t, .agg cs), (c, .any)] [] f s = if s = t then .agg cs else fbE f c s := fun s => by
    unfold eff fbE
    by_cases e : s = t
    · subst e; simp
    · have b1 : (s == t) = false := by simpa using e
      by_cases e2 : s = c
      · subst e2
        simp only [List.lookup, b1, beq_self_eq_true, if_neg e, if_true]
      · have b2 : (s == c) = false := by simpa using e2
        simp only [List.lookup, b1, b2, if_neg e, if_neg e2]
        simp [mentL]
  refine ⟨Mplus (onlyω ω c) M w, ⟨hnt, by simp [Act.put, hsz], by simp [Act.put, h.defers], h.ch, Mplus_holds h.holds, Mem.le_trans h.ext hle, fun p h1 h2 => ?_, ρ, ersω ω c, ?_⟩⟩
  · by_cases e : M p = none
    · unfold Mplus at h2
      split at h2
      · rename_i q hq
        exact hO.new _ _ (onlyω_some hq).1
      · exact absurd e h2
    · exact h.fresh p h1 e
  · refine hE.step (ks := []) (fun p hp => absurd rfl hp) hle (Nat.le_refl _) (fun s hs => ?_) (fun b hb => ?_) (fun k p e => .inl ⟨p, e⟩) (fun p q e => ?_) (fun b l hb hl hB => ?_)
    · rw [hf']
      by_cases e : s = t
      · subst e
        rw [if_pos rfl]
        refine .inr (.inr ⟨v, by simp [Act.put, hsz, ht], ?_⟩)
        rw [hf', if_pos rfl, repV_of rfl]
        exact hr
      · rw [if_neg e]
        refine .inl (.inr ⟨rfl, ?_, by simp [mentL]⟩)
        simp [Act.put, Array.getElem?_setIfInBounds, Ne.symm e]
    · have : b ≠ t := by omega
      rw [hf', if_neg this]
      exact .inl (.inr ⟨rfl, fun p hp => ⟨rfl, fun hw => ⟨hw, rfl⟩⟩⟩)
    · obtain ⟨e2, e3⟩ := ersω_some e
      have e4 : onlyω ω c p.block = none := by
        simp only [onlyω, e2, if_neg e3]
      simp only [Mplus, e4]
      exact hO.apart p q e2
    · have : b ≠ t := by omega
      rw [hf', if_neg this] at hB
      exact ⟨rfl, hB⟩
theorem cellV_repC {v : Value} (h : RepC F M d v) : cellV d = d := by
  cases d <;> first | rfl | (simp [RepC] at h)
theorem cellV_frz (hO : Own F L New f M a w ρ ω) {c : Nat} (hc : 10000 ≤ c) {sz : Nat} {es : List (List D)} (hg : f c = .blk sz es) {i : Nat} {r : List D} (hi : es[i]? = some r) {off : Nat} (ho : r[off]? = some d) {v : Value} (h : CellR F M ω ρ w c i off d v) : RepC F (Mplus (onlyω ω c) M w) (cellV d) v := by
  have hO1 := hO.only hc
  cases d
  case own sz' rr =>
    obtain ⟨h1, h2⟩ := h
    have hcc : fcE f c c = f c := by simp [fcE]
    have e1 : getP (fcE f c) (.n c i off) = some (sz', rr) := by simp only [getP, hcc, hg, hi, Option.getD_some, ho]
    have h3 := dp1_rep' hO1 h1 (by simp only [dpOk1, e1]; omega)
    simp only [dp1, e1, List.drop_zero, List.take_length] at h3
    have h4 : rr.map (fun e => e.map cellV) = rr := by
      rcases h2 with ⟨h2, _⟩ | ⟨_, _, vs, T, _, _, _, _, h5⟩
      · rw [h2]; rfl
      · conv => rhs; rw [← List.map_id rr]
        refine List.map_congr_left fun e he => ?_
        conv => rhs; rw [id_eq, ← List.map_id e]
        refine List.map_congr_left fun x hx => ?_
        obtain ⟨i', hi'⟩ := List.getElem?_of_mem he
        obtain ⟨o', ho'⟩ := List.getElem?_of_mem hx
        obtain ⟨u, _, hu⟩ := h5 i' e o' x hi' ho'
        exact cellV_repC hu
    rw [h4] at h3
    exact h3
  all_goals exact RepC.mono (Mplus_le hO1) _ _ h
theorem snd_ldF (h : SR F nt S L w0 M0 f M a w) {t0 : Nat} (hd : o.dst = some t0) (ht : t0 < nt) {n : Nat} {x : Opd} {x' : Operand} {t : TypeId} (ho : o.op = .load t x') (hx : opdOk F x x' = true) (hk : tyS P t n true = true)
    (hr : match vd f x with
      | .adr (.r c) i off => match f c with
        | .blk _ es => ∃ r, es[i]? = some r ∧ off + n ≤ r.length ∧ K [(t0, .agg (((r.drop off).take n).map cellV)), (c, .any)] []
        | _ => False
      | _ => False) : o.wp P a w (PostX F nt S L w0 M0 f K) Q := by
  split at hr
  · rename_i c i off ex
    split at hr
    · rename_i sz es hg
      obtain ⟨r, hi, hn, hK⟩ := hr
      have gp : getP f (.r c) = some (sz, es) := by simp only [getP, hg]
      obtain ⟨ρ0, ω0, hO0⟩ := h.own
      have hc : 10000 ≤ c := getP_big hO0 gp
      have run : ∃ v, (execOp a.eval o).run P w = .ok (.value v) w ∧ ∀ ρ ω, Own F L (fun k => S k ∨ w0.heap.size ≤ k) f M a w ρ ω → RepC F (Mplus (onlyω ω c) M w) (.agg (((r.drop off).take n).map cellV)) v := by
        have one : ∀ ρ ω, Own F L (fun k => S k ∨ w0.heap.size ≤ k) f M a w ρ ω → ∃ v, (execOp a.eval o).run P w = .ok (.value v) w ∧ RepC F (Mplus (onlyω ω c) M w) (.agg (((r.drop off).take n).map cellV)) v := by
          intro ρ ω hO
          have g1 := hO.opd hx
          rw [ex, repV_of rfl] at g1
          simp only [RepR] at g1
          obtain ⟨vs, T, hω, h0, hl, h1, h2, h3, h4⟩ := hO.row (p := .r c) hc gp hi
          rw [h0] at g1
          have hcells : ∀ j v, (vs.drop ((ρ (.r c)).base + i * sz + off))[j]? = some v → w.cell? ((⟨(ρ (.r c)).blk, (ρ (.r c)).base + i * sz + off, none⟩ : Addr).add j) = some v := by
            intro j v hj
            rw [addr_add]
            rw [List.getElem?_drop] at hj
            simp [World.cell?, h1, hj]
          refine ⟨.agg ((vs.drop ((ρ (.r c)).base + i * sz + off)).take n).toArray, by simp only [execOp, ho, g1, Sem.run_bind, run_loadAt hk hcells (by simp; omega), Result.andThen_ok, Sem.run_pure, if_true], ?_⟩
          simp only [RepC]
          refine ⟨_, rfl, RepL.of_forall' (by simp only [List.length_map, List.length_take, List.length_drop]; omega) (fun j d v k1 k2 => ?_)⟩
          rw [List.getElem?_map, Option.map_eq_some_iff] at k1
          obtain ⟨d', k1, rfl⟩ := k1
          have hj : j < n := by
            have := (List.getElem?_eq_some_iff.1 k1).1
            simp only [List.length_take] at this; omega
          rw [List.getElem?_take_of_lt hj, List.getElem?_drop] at k1 k2
          obtain ⟨v', k3, k4⟩ := h4 _ _ k1
          rw [Nat.add_assoc, k3] at k2
          cases k2
          exact cellV_frz hO hc hg hi k1 k4
        obtain ⟨v, hv, _⟩ := one ρ0 ω0 hO0
        refine ⟨v, hv, fun ρ ω hO => ?_⟩
        obtain ⟨v', hv', h2⟩ := one ρ ω hO
        rw [hv] at hv'
        cases hv'
        exact h2
      obtain ⟨v, hv, hrep⟩ := run
      obtain ⟨M', hs⟩ := h.frzS ht hc hrep
      exact wp_value hv (by rw [hd]; exact ⟨_, _, M', hK, hs⟩)
    · exact hr.elim
  · exact hr.elim
end
end Go.Gv
namespace Go.Gv
section
variable {P : Program} {F : Fid} {C : Nat → List D → D → List D → Prop} {nt : Nat} {S : Nat → Prop} {L : Nat → Option Loc} {w0 : World} {M0 : Mem} {f : Nat → D} {M : Mem} {a : Act} {w : World} {o : Oper} {d : D} {Q : Exit → Act → World → Prop} {ρ : Pa → Loc} {ω : Nat → Option Pa} {New : Nat → Prop} {K : List (Nat × D) → List (Nat × Bool) → Prop}
theorem hostL_get' {t : Nat} : ∀ {ds : List D} {i j : Nat}, (hostL t i ds)[j]? = (ds[j]?).map (hostP t (i + j))
  | [], i, j => by simp [hostL]
  | d :: ds, i, j => by
    cases j with
    | zero => simp [hostL]
    | succ j =>
      simp only [hostL, List.getElem?_cons_succ]
      rw [hostL_get', show i + 1 + j = i + (j + 1) by omega]
theorem hostL_len' {t : Nat} : ∀ {ds : List D} {i : Nat}, (hostL t i ds).length = ds.length
  | [], i => rfl
  | d :: ds, i => by simp [hostL, hostL_len']
theorem hostRL_get' {t b : Nat} {x : D} : ∀ {ds : List D} {i : Nat}, (b, x) ∈ hostRL t i ds → ∃ j d, ds[j]? = some d ∧ (b, x) ∈ hostR1 t (i + j) d
  | [], i, h => by simp [hostRL] at h
  | d :: ds, i, h => by
    simp only [hostRL, List.mem_append] at h
    rcases h with h | h
    · exact ⟨0, d, by simp, h⟩
    · obtain ⟨j, d', h1, h2⟩ := hostRL_get' h
      exact ⟨j + 1, d', by simpa using h1, by rwa [show i + (j + 1) = i + 1 + j by omega]⟩
theorem hostRL_of'' {t b : Nat} {x : D} : ∀ {ds : List D} {i j : Nat} {d : D}, ds[j]? = some d → (b, x) ∈ hostR1 t (i + j) d → (b, x) ∈ hostRL t i ds
  | [], i, j, d, h, _ => by simp at h
  | d0 :: ds, i, j, d, h, hx => by
    simp only [hostRL, List.mem_append]
    cases j with
    | zero => simp at h; subst h; exact .inl hx
    | succ j => exact .inr (hostRL_of'' (j := j) (by simpa using h) (by rwa [show i + (j + 1) = i + 1 + j by omega] at hx))
theorem hostRL_of' {t j sz : Nat} {ds : List D} {es : List (List D)} (h : ds[j]? = some (.own sz es)) : (rt t (1 + j), D.blk sz es) ∈ hostRL t 1 ds := hostRL_of'' h (by simp [hostR1])
theorem SR.unpack (h : SR F nt S L w0 M0 f M a w) (hL : ∀ t i, i < 15 → L (rt t i) = none) {t : Nat} (ht : t < nt) {c sz : Nat} {row : List D} (hg : f c = .blk sz [row]) (hok : okR (.agg row) = true) (hcn : ∀ x, (c, x) ∉ hostR t (.agg row)) {v : Value}
    (hv : ∀ ρ ω, Own F L (fun k => S k ∨ w0.heap.size ≤ k) f M a w ρ ω → ∃ vs : List Value, v = .agg vs.toArray ∧ vs.length = row.length ∧ ∀ (j : Nat) (d : D) (u : Value), row[j]? = some d → vs[j]? = some u → CellR F M ω ρ w c 0 j d u) :
    SR F nt S L w0 M0 (eff ((t, hostD t (.agg row)) :: (c, .any) :: hostR t (.agg row)) (hostK t (.agg row)) f) M (a.put (some t) v) w := by
  obtain ⟨ρ, ω, hO⟩ := h.own
  obtain ⟨vs, hv1, hv2, hv3⟩ := hv ρ ω hO
  have hc10 : 10000 ≤ c := hO.big hg
  have ht10 : t < 10000 := Nat.lt_of_lt_of_le ht h.hnt
  have hct0 : c ≠ t := by omega
  obtain ⟨R, hR⟩ : ∃ R, R = D.agg row := ⟨_, rfl⟩
  rw [← hR] at hok hcn ⊢
  have mem : ∀ b, ((hostR t R).any fun q => q.1 == b) = true ↔ ∃ x, (b, x) ∈ hostR t R := fun b => by
    simp only [List.any_eq_true, beq_iff_eq]
    constructor
    · rintro ⟨⟨c, x⟩, h1, rfl⟩; exact ⟨x, h1⟩
    · rintro ⟨x, h1⟩; exact ⟨(b, x), h1, rfl⟩
  have inR : ∀ j sz es, row[j]? = some (.own sz es) → (rt t (1 + j), D.blk sz es) ∈ hostR t R := fun j sz es hj => by
    rw [hR]; exact hostRL_of' hj
  have ofR : ∀ b x, (b, x) ∈ hostR t R → ∃ j sz es, b = rt t (1 + j) ∧ row[j]? = some (.own sz es) ∧ x = .blk sz es := fun b x hx => by
    rw [hR] at hx
    obtain ⟨j, d, hj, hd⟩ := hostRL_get' hx
    have hj' : j < vs.length := by rw [hv2]; exact (List.getElem?_eq_some_iff.1 hj).1
    have hcell := hv3 j d _ hj (List.getElem?_eq_getElem hj')
    cases d <;> simp only [hostR1, List.mem_cons, List.not_mem_nil, or_false, Prod.mk.injEq] at hd
    case own sz es => exact ⟨j, sz, es, hd.1, hj, hd.2⟩
    case blk sz es => simp [CellR, RepC] at hcell
  obtain ⟨ρ2, hρ2⟩ : ∃ ρ2 : Pa → Loc, ρ2 = fun p => match p with
    | .r b => if ((hostR t R).any fun q => q.1 == b) = true then ρ (.n c 0 (b - rt t 1)) else ρ p
    | .n _ _ _ => ρ p := ⟨_, rfl⟩
  obtain ⟨ω2, hω2⟩ : ∃ ω2 : Nat → Option Pa, ω2 = fun k => match ω k with
    | some p => if p.root = c then (match p with
        | .n _ i o => if i = 0 ∧ ((hostR t R).any fun q => q.1 == rt t (1 + o)) = true then some (.r (rt t (1 + o))) else none
        | .r _ => none) else if ((hostR t R).any fun q => q.1 == p.root) = true then none else some p
    | none => none := ⟨_, rfl⟩
  have r1 : ∀ j x, (rt t (1 + j), x) ∈ hostR t R → ρ2 (.r (rt t (1 + j))) = ρ (.n c 0 j) := fun j x hx => by
    rw [hρ2]; simp only [(mem _).2 ⟨x, hx⟩, if_true]
    have : rt t (1 + j) - rt t 1 = j := by unfold rt; omega
    rw [this]
  have r2 : ∀ p : Pa, ¬ (∃ x, (p.root, x) ∈ hostR t R) → ρ2 p = ρ p := fun p hp => by
    rw [hρ2]
    cases p with
    | r b =>
      have : ¬ ((hostR t R).any fun q => q.1 == b) = true := fun e => hp ((mem _).1 e)
      simp only [if_neg this]
    | n b i o => rfl
  have o1 : ∀ k j x, ω k = some (.n c 0 j) → (rt t (1 + j), x) ∈ hostR t R → ω2 k = some (.r (rt t (1 + j))) := fun k j x e hx => by
    rw [hω2]; simp only [e, Pa.root, if_true, (mem _).2 ⟨x, hx⟩, and_self]
  have o2 : ∀ k p, ω k = some p → p.root ≠ c → ¬ (∃ x, (p.root, x) ∈ hostR t R) → ω2 k = some p := fun k p e hpc hp => by
    have : ¬ ((hostR t R).any fun q => q.1 == p.root) = true := fun e => hp ((mem _).1 e)
    rw [hω2]; simp only [e, if_neg hpc, if_neg this]
  have o3 : ∀ k p, ω2 k = some p → ∃ q, ω k = some q := fun k p e => by
    rw [hω2] at e
    simp only at e
    cases e1 : ω k with
    | some q => exact ⟨q, rfl⟩
    | none => rw [e1] at e; cases e
  have lkn : ∀ s, s ≠ t → s ≠ c → ¬ (∃ x, (s, x) ∈ hostR t R) → ((t, hostD t R) :: (c, D.any) :: hostR t R).lookup s = none := fun s h1 h2 h3 => by
    have e1 : (s == t) = false := by simpa using h1
    have e2 : (s == c) = false := by simpa using h2
    simp only [List.lookup_cons, e1, e2]
    exact lkNone fun y hy => h3 ⟨y, hy⟩
  have small : ∀ s, s < 10000 → ¬ (∃ x, (s, x) ∈ hostR t R) := fun s hs ⟨x, hx⟩ => by
    obtain ⟨j, _, _, h3, _⟩ := ofR s x hx
    unfold rt at h3; omega
  refine ⟨h.hnt, by simp [Act.put, h.size], by simp [Act.put, h.defers], h.ch, h.holds, h.ext, h.fresh, ρ2, ω2, hO.step (ks := hostK t R) (fun p hp => ?_) (Mem.le_refl _) (Nat.le_refl _) (fun s hs => ?_) (fun b hb => ?_) (fun k p e => .inl (o3 k p e)) (fun p q e => ?_) (fun b l hb hl hB => ?_)⟩
  · by_cases e : ∃ x, (p.root, x) ∈ hostR t R
    · obtain ⟨x, hx⟩ := e
      exact ⟨(p.root, true), List.mem_map.2 ⟨_, hx, rfl⟩, mentP_root' p⟩
    · exact absurd (r2 p e) hp
  · by_cases e : s = t
    · right
      subst e
      have e1 : eff ((s, hostD s R) :: (c, D.any) :: hostR s R) (hostK s R) f s = hostD s R := eff_at (by simp)
      refine .inr ⟨v, getElem?_put_same (by rw [h.size]; exact ht), ?_⟩
      rw [e1, hR]
      refine ⟨vs, hv1, by rw [hostL_len']; exact hv2.symm, fun j d u h1 h2 => ?_⟩
      rw [hostL_get', Option.map_eq_some_iff] at h1
      obtain ⟨d', h1, rfl⟩ := h1
      have hcell := hv3 j d' u h1 h2
      cases d'
      case own sz' es' =>
        simp only [hostP, RepR]
        rw [r1 j _ (inR j _ _ h1)]
        exact hcell.1
      all_goals first | exact RepR.of_pure hcell | (simp [CellR, RepC] at hcell; done)
    · left
      rcases eff_slot (f := f) (ks := hostK t R) (lkn s e (by omega) (small s hs)) with h1 | h1
      · exact .inl h1
      · exact .inr ⟨h1.1, getElem?_put e, h1.2⟩
  · by_cases e : ∃ x, (b, x) ∈ hostR t R
    · obtain ⟨x, hx⟩ := e
      obtain ⟨j, sz', es', h3, h4, rfl⟩ := ofR b x hx
      right
      have hct : (b == t) = false := by simp; omega
      have hbc : b ≠ c := fun e => hcn _ (e ▸ hx)
      have hct2 : (b == c) = false := by simpa using hbc
      have hlk : ((t, hostD t R) :: (c, D.any) :: hostR t R).lookup b = some (.blk sz' es') := by
        simp only [List.lookup_cons, hct, hct2]
        exact lkMem (fun y hy => (hostRL_uniq hx hy).symm) hx
      refine .inl ⟨sz', es', eff_at hlk, ?_⟩
      have hj' : j < vs.length := by rw [hv2]; exact (List.getElem?_eq_some_iff.1 h4).1
      have hcell := hv3 j _ _ h4 (List.getElem?_eq_getElem hj')
      subst h3
      have e1 := r1 j _ hx
      unfold RootR PathR
      rw [e1]
      rcases hcell.2 with h5 | ⟨h5, h6, us, T, g1, g2, g3, g4, g5⟩
      · exact .inl h5
      · refine .inr ⟨o1 _ j _ h5 hx, h6, us, T, g1, g2, g3, g4, fun i r off d k1 k2 => ?_⟩
        obtain ⟨u, k3, k4⟩ := g5 i r off d k1 k2
        refine ⟨u, k3, ?_⟩
        cases d
        case own => simp [RepC] at k4
        all_goals exact k4
    · by_cases ebc : b = c
      · subst ebc
        refine .inl (.inl ?_)
        have hct : (b == t) = false := by simp; omega
        rw [eff_at (d := .any) (by simp [List.lookup_cons, hct])]
        rfl
      · left
        rcases eff_root (f := f) (ks := hostK t R) (lkn b (by omega) ebc e) with h1 | h1
        · exact .inl h1
        · refine .inr ⟨h1, fun p hp => ?_⟩
          have hpe : ¬ (∃ x, (p.root, x) ∈ hostR t R) := by rw [hp]; exact e
          exact ⟨r2 p hpe, fun hw => ⟨o2 _ _ hw (by rw [hp]; exact ebc) hpe, rfl⟩⟩
  · obtain ⟨q', e1⟩ := o3 _ q e
    exact hO.apart p q' e1
  · by_cases e : ∃ x, (b, x) ∈ hostR t R
    · obtain ⟨x, hx⟩ := e
      obtain ⟨j, h1, h2, h3, _⟩ := hostR_mem hok hx
      rw [h3, hL t j (by omega)] at hl; cases hl
    · have hct : (b == t) = false := by simp; omega
      by_cases ebc : b = c
      · subst ebc
        rw [eff_at (d := .any) (by simp [List.lookup_cons, hct])] at hB; cases hB
      · refine ⟨r2 _ e, ?_⟩
        rcases eff_root (f := f) (ks := hostK t R) (lkn b (by omega) ebc e) with h1 | h1
        · rw [hB] at h1; cases h1
        · rw [← h1]; exact hB
theorem snd_ldM (h : SR F nt S L w0 M0 f M a w) (hL : ∀ t i, i < 15 → L (rt t i) = none) {t0 : Nat} (hd : o.dst = some t0) (ht : t0 < nt) {n : Nat} {x : Opd} {x' : Operand} {t : TypeId} (ho : o.op = .load t x') (hx : opdOk F x x' = true) (hk : tyS P t n true = true)
    (hr : match vd f x with
      | .adr (.r c) i off => i = 0 ∧ off = 0 ∧ match f c with
        | .blk _ [row] => row.length = n ∧ okR (.agg row) = true ∧ (hostR t0 (.agg row)).all (fun p => p.1 != c) = true ∧ K ((t0, hostD t0 (.agg row)) :: (c, .any) :: hostR t0 (.agg row)) (hostK t0 (.agg row))
        | _ => False
      | _ => False) : o.wp P a w (PostX F nt S L w0 M0 f K) Q := by
  split at hr
  · rename_i c i off ex
    obtain ⟨rfl, rfl, hr⟩ := hr
    split at hr
    · rename_i sz row hg
      obtain ⟨hn, hok, hcn, hK⟩ := hr
      have gp : getP f (.r c) = some (sz, [row]) := by simp only [getP, hg]
      obtain ⟨ρ0, ω0, hO0⟩ := h.own
      have hc : 10000 ≤ c := getP_big hO0 gp
      have run : ∃ v, (execOp a.eval o).run P w = .ok (.value v) w ∧ ∀ ρ ω, Own F L (fun k => S k ∨ w0.heap.size ≤ k) f M a w ρ ω → ∃ vs : List Value, v = .agg vs.toArray ∧ vs.length = row.length ∧ ∀ (j : Nat) (d : D) (u : Value), row[j]? = some d → vs[j]? = some u → CellR F M ω ρ w c 0 j d u := by
        have one : ∀ ρ ω, Own F L (fun k => S k ∨ w0.heap.size ≤ k) f M a w ρ ω → ∃ v, (execOp a.eval o).run P w = .ok (.value v) w ∧ ∃ vs : List Value, v = .agg vs.toArray ∧ vs.length = row.length ∧ ∀ (j : Nat) (d : D) (u : Value), row[j]? = some d → vs[j]? = some u → CellR F M ω ρ w c 0 j d u := by
          intro ρ ω hO
          have g1 := hO.opd hx
          rw [ex, repV_of rfl] at g1
          simp only [RepR] at g1
          obtain ⟨vs, T, hω, h0, hl, h1, h2, h3, h4⟩ := hO.row (p := .r c) hc gp (i := 0) (r := row) rfl
          rw [h0] at g1
          have hcells : ∀ j v, (vs.drop ((ρ (.r c)).base + 0 * sz + 0))[j]? = some v → w.cell? ((⟨(ρ (.r c)).blk, (ρ (.r c)).base + 0 * sz + 0, none⟩ : Addr).add j) = some v := by
            intro j v hj
            rw [addr_add]
            rw [List.getElem?_drop] at hj
            simp only [Nat.zero_mul, Nat.add_zero] at hj
            simp [World.cell?, h1, hj]
          refine ⟨.agg ((vs.drop ((ρ (.r c)).base + 0 * sz + 0)).take n).toArray, by simp only [execOp, ho, g1, Sem.run_bind, run_loadAt hk hcells (by simp; omega), Result.andThen_ok, Sem.run_pure, if_true], _, rfl, by rw [List.length_take, List.length_drop]; omega, fun j d u k1 k2 => ?_⟩
          have hj : j < n := by
            have := (List.getElem?_eq_some_iff.1 k2).1
            simp only [List.length_take] at this; omega
          rw [List.getElem?_take_of_lt hj, List.getElem?_drop] at k2
          obtain ⟨v', k3, k4⟩ := h4 j d k1
          rw [show (ρ (.r c)).base + 0 * sz + 0 + j = (ρ (.r c)).base + 0 * sz + j by omega, k3] at k2
          cases k2
          exact k4
        obtain ⟨v, hv, _⟩ := one ρ0 ω0 hO0
        refine ⟨v, hv, fun ρ ω hO => ?_⟩
        obtain ⟨v', hv', h2⟩ := one ρ ω hO
        rw [hv] at hv'
        cases hv'
        exact h2
      obtain ⟨v, hv, hrep⟩ := run
      have hs := h.unpack hL ht hg hok (fun x hx => by
        have := List.all_eq_true.1 hcn _ hx
        simp at this) hrep
      exact wp_value hv (by rw [hd]; exact ⟨_, _, M, hK, hs⟩)
    · exact hr.elim
  · exact hr.elim
end
end Go.Gv
