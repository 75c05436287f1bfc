/-
  Texts of the proof: GvF12, GvF13, GvG, GvH, GvI0, GvI.
-/
import Derived.Test.YtaodbcdhomimpaaGreatDoorX3
import Derived.Orders
set_option linter.all false
namespace Go.Gv
section
variable {P : Program} {F : Fid} {C : Nat → List D → D → List D → Prop} {nt : Nat} {S : Nat → Prop} {L : Nat → Option Loc} {w0 : World} {M0 : Mem} {f : Nat → D} {M : Mem} {a : Act} {w : World} {o : Oper} {d : D} {Q : Exit → Act → World → Prop} {ρ : Pa → Loc} {ω : Nat → Option Pa} {New : Nat → Prop} {K : List (Nat × D) → List (Nat × Bool) → Prop}
theorem cpyR_len {es rs : List (List D)} {k : Nat} (h : k + rs.length ≤ es.length) : (cpyR es k rs).length = es.length := by
  simp only [cpyR, List.length_append, List.length_take, List.length_drop]; omega
theorem cpyR_get {es rs : List (List D)} {k i : Nat} (h : k + rs.length ≤ es.length) : (cpyR es k rs)[i]? = if k ≤ i ∧ i < k + rs.length then rs[i - k]? else es[i]? := by
  unfold cpyR
  have hl : (es.take k).length = k := by simp; omega
  by_cases h1 : i < k
  · rw [if_neg (by omega), List.append_assoc, List.getElem?_append_left (by omega), List.getElem?_take_of_lt h1]
  · by_cases h2 : i < k + rs.length
    · rw [if_pos (by omega), List.append_assoc, List.getElem?_append_right (by omega), hl, List.getElem?_append_left (by omega)]
    · rw [if_neg (by omega), List.getElem?_append_right (by rw [List.length_append, hl]; omega), List.length_append, hl, List.getElem?_drop]
      congr 1; omega
theorem cpyR_mem {es rs : List (List D)} {k : Nat} {e : List D} (he : e ∈ cpyR es k rs) : e ∈ rs ∨ e ∈ es := by
  unfold cpyR at he
  rcases List.mem_append.1 he with he | he
  · rcases List.mem_append.1 he with he | he
    · exact .inr (List.mem_of_mem_take he)
    · exact .inl he
  · exact .inr (List.mem_of_mem_drop he)
def cpyOk (P : Program) (t sz : Nat) : Bool := match P.underlying t with
  | some (.slice e) => (match P.info? e with
    | some i => i.size == sz
    | none => false)
  | _ => false
theorem run_copy {T T2 sz : Nat} {ty : TypeId} (hk : cpyOk P T sz = true) {g o n m cap cap2 : Nat} {ad : Addr} {cur news : List Value} {T0 : TypeId} (hg : w.heap[g]? = some (.cells cur.toArray T0 (0, 0))) (hl : o + min m n * sz ≤ cur.length)
    (hnl : news.length = m * sz) (hnews : ∀ j u, news[j]? = some u → w.cell? (ad.add j) = some u) (hone : ∀ u ∈ news, u.oneCell' = true) :
    ∃ w', (Builtin.copy_ #[T, T2] ty #[.slice (some ⟨g, o, none⟩) n cap, .slice (some ad) m cap2]).run P w = .ok (.int .i64 (min m n : Nat)) w' ∧ w'.heap[g]? = some (.cells (cur.take o ++ news.take (min m n * sz) ++ cur.drop (o + min m n * sz)).toArray T0 (0, 0)) ∧ Ch (fun k => k = g) w w' := by
  unfold cpyOk at hk
  split at hk
  · rename_i e hu
    split at hk
    · rename_i i hi
      have hsz : i.size = sz := by simpa using hk
      have hle : min m n * sz ≤ m * sz := Nat.mul_le_mul_right _ (Nat.min_le_left _ _)
      have hnl2 : (news.take (min m n * sz)).length = min m n * sz := by rw [List.length_take]; omega
      obtain ⟨w', e1, e2, e3, e4, e5, e6, e7, e8⟩ := run_storeCells_mid (P := P) g T0 o (news.take (min m n * sz)) 0 cur w hg (by rw [hnl2]; omega) (fun v hv => hone v (List.mem_of_mem_take hv))
      refine ⟨w', ?_, by rw [e2]; simp only [Nat.add_zero, hnl2], ⟨e5, e6, e7, by omega, fun k _ hk => e3 k hk, by omega⟩⟩
      have hld := run_loadCells_list (P := P) w ad (news.take (min m n * sz)) (fun j v hj => hnews j v (by rw [List.getElem?_take] at hj; split at hj; exact hj; cases hj))
      rw [hnl2] at hld
      have hmn : Nat.min m n = min m n := rfl
      simp [Builtin.copy_, run_underlying hu, sizeOf, typeInfo, hi, Builtin.lenOf, Builtin.firstCells, hsz, hmn, hld, e1, goInt]
    · cases hk
  · cases hk
theorem run_copy0 {T T2 sz : Nat} {ty : TypeId} (hk : cpyOk P T sz = true) (A : Option Addr) (cap : Nat) (ad : Addr) (m cap2 : Nat) : (Builtin.copy_ #[T, T2] ty #[.slice A 0 cap, .slice (some ad) m cap2]).run P w = .ok (.int .i64 0) w := by
  unfold cpyOk at hk
  split at hk
  · rename_i e hu
    split at hk
    · rename_i i hi
      have hmn : Nat.min m 0 = 0 := Nat.min_zero m
      cases A <;> simp [Builtin.copy_, run_underlying hu, sizeOf, typeInfo, hi, Builtin.lenOf, Builtin.firstCells, hmn, loadCells, loadCellsFrom, storeCells, goInt]
    · cases hk
  · cases hk
theorem snd_cpy (h : SR F nt S L w0 M0 f M a w) {t : Nat} (hd : o.dst = some t) (ht : t < nt) {sz : Nat} {x y : Opd} {x' y' : Operand} {T T2 : TypeId} (ho : o.op = .call { callee := .builtin .copy, args := #[x', y'], argTypes := #[T, T2] }) (hx : opdOk F x x' = true) (hy : opdOk F y y' = true) (hk : cpyOk P T sz = true)
    (hr : rowsW f false (vd f y) sz fun rows bs => bs = [] ∧ 0 < rows.length ∧ match vd f x with
      | .ref (.r b) k n => (n = 0 → K [(t, .int .i64 0)] []) ∧ (0 < n → match f b with
        | .blk sz' es => sz' = sz ∧ k + n ≤ es.length ∧ (∀ e ∈ es, ∀ c ∈ e, isC1 c = true) ∧ (∀ e ∈ rows, ∀ c ∈ e, isC1 c = true) ∧ K [(t, .int .i64 (min rows.length n : Nat)), (b, .blk sz (cpyR es k (rows.take n)))] []
        | _ => False)
      | _ => False) : o.wp P a w (PostX F nt S L w0 M0 f K) Q := by
  obtain ⟨ρ, ω, hO⟩ := h.own
  obtain ⟨rows, bs, c2, ⟨hbs0, hrl, hr⟩, hbs, _, huY, A2, m, cap2, news, ey, hm, hnl, hA2, hone, hY⟩ := rowsW_spec h hO hy hr
  have hc2 : c2 = none := by
    rw [hbs0] at hbs
    cases c2 with
    | none => rfl
    | some c => simp at hbs
  subst hc2
  have hv := hO.opd hx
  split at hr
  · rename_i b k n hvx
    rw [hvx, repV_of rfl] at hv
    obtain ⟨ad0, hA0, _⟩ := hA2 (by omega)
    rcases Nat.eq_zero_or_pos n with hn | hn
    · have hK := hr.1 hn
      subst hn
      have hv0 : ∃ A cap, a.eval x' = .slice A 0 cap := by
        simp only [RepR] at hv
        rcases hv with ⟨_, A, e⟩ | ⟨cap, e, _⟩
        · exact ⟨A, 0, e⟩
        · exact ⟨_, cap, e⟩
      obtain ⟨A, cap, hv0⟩ := hv0
      refine postX_val hd (v := .int .i64 0) (w' := w) ?_ hK (h.put ht (fun ρ ω _ => by rw [repV_of rfl]; simp only [RepR, RepC]))
      subst hA0
      have e1 := run_copy0 (P := P) (w := w) (T2 := T2) (ty := o.type) hk A cap ad0 m cap2
      simp only [execOp, ho, resolve, invoke, builtin, List.map_toArray, List.map_cons, List.map_nil, Sem.run_bind, Sem.run_pure, Result.andThen_ok, hv0, ey, e1]
    have hr := hr.2 hn
    split at hr
    · rename_i sz' es hf
      obtain ⟨rfl, hkn, hes1, hrow1, hK⟩ := hr
      have hb := hO.big hf
      have hgp : getP f (.r b) = some (sz', es) := by simp [getP, hf]
      obtain ⟨ad, rfl, hnews⟩ := hA2 (by omega)
      rcases given hO hgp hkn hv (fun e he c hc => isC1_isO (hes1 e (List.mem_of_mem_drop (List.mem_of_mem_take he)) c hc)) with ⟨A, hv, hn0⟩ | ⟨cap, us, T0, hv, ⟨hcap, hmc⟩, hcl, hω, g0, g1, g2, g4, g5⟩
      · omega
      · have hrows : Rows w (ρ (.r b)) sz' es (fun i off d v => CellR F M ω ρ w b i off d v) := by
          rcases hO.roots b sz' es hb hf with ⟨e0, _⟩ | ⟨_, hr⟩
          · rw [e0] at hkn; simp at hkn; omega
          · exact hr
        obtain ⟨q0, us0, T1, q1, q2, q3, q4, q5⟩ := id hrows
        rw [g1] at q1
        simp only [Option.some.injEq, Obj.cells.injEq, and_true] at q1
        obtain ⟨q1, rfl⟩ := q1
        obtain rfl : us = us0 := by simpa using congrArg Array.toList q1
        have hle : k * sz' + n * sz' ≤ es.length * sz' := by rw [← Nat.add_mul]; exact Nat.mul_le_mul_right _ hkn
        have hmn : min m n * sz' ≤ n * sz' := Nat.mul_le_mul_right _ (Nat.min_le_right _ _)
        obtain ⟨w', e1, e2, e3⟩ := run_copy (P := P) (w := w) (T2 := T2) (ty := o.type) hk (m := m) (n := n) (cap := cap) (cap2 := cap2) (o := (ρ (.r b)).base + k * sz') g1 (by rw [g2]; omega) hnl hnews hone
        have hmin : (rows.take n).length = min m n := by rw [List.length_take, hm, Nat.min_comm]
        have hfit : k + (rows.take n).length ≤ es.length := by rw [hmin]; omega
        have hml : min m n * sz' ≤ m * sz' := Nat.mul_le_mul_right _ (Nat.min_le_left _ _)
        have hN : (news.take (min m n * sz')).length = min m n * sz' := by rw [List.length_take]; omega
        have hfill := h.fill hO hf hω hrows (es' := cpyR es k (rows.take n)) (us := us.take ((ρ (.r b)).base + k * sz') ++ news.take (min m n * sz') ++ us.drop ((ρ (.r b)).base + k * sz' + min m n * sz')) (w' := w') (Nat.le_of_eq (cpyR_len hfit)) (fun e he => by
          rcases cpyR_mem he with he | he
          · have he := List.mem_of_mem_take he
            exact ⟨huY e he, hrow1 e he⟩
          · exact ⟨g4 e he, hes1 e he⟩) e3 e2 (by simp only [List.length_append, List.length_take, List.length_drop] at hN ⊢; omega) (fun i r off d h1 h2 => by
          have hget := fun x => splice_get (vs := us) (us := news.take (min m n * sz')) (q := (ρ (.r b)).base + k * sz') (n := min m n * sz') (x := x) hN (by omega)
          rw [cpyR_get hfit, hmin] at h1
          split at h1
          · rename_i hi
            have hil : i - k < (rows.take n).length := by rw [hmin]; omega
            have hin : i - k < n := by rw [hmin] at hil; omega
            rw [List.getElem?_take_of_lt hin] at h1
            obtain ⟨u, k1, k2⟩ := hY (i - k) r off d h1 h2
            have hof : off < sz' := by rw [← huY r (List.mem_of_getElem? h1)]; exact (List.getElem?_eq_some_iff.1 h2).1
            have h3 := rowIdx (sz := sz') (show i - k < min m n by omega) hof
            have h4 : (i - k) * sz' + k * sz' = i * sz' := by rw [← Nat.add_mul]; congr 1; omega
            refine ⟨u, ?_, k2.2⟩
            rw [hget, if_pos (by omega), show (ρ (.r b)).base + i * sz' + off - ((ρ (.r b)).base + k * sz') = (i - k) * sz' + off by omega, List.getElem?_take_of_lt h3]
            exact k1
          · rename_i hi
            obtain ⟨u, k1, k2⟩ := q5 i r off d h1 h2
            have hof : off < sz' := by rw [← g4 r (List.mem_of_getElem? h1)]; exact (List.getElem?_eq_some_iff.1 h2).1
            rw [isC1_CellR (isC1_isO (hes1 r (List.mem_of_getElem? h1) d (List.mem_of_getElem? h2)))] at k2
            refine ⟨u, ?_, k2⟩
            have h5 : ¬ ((ρ (.r b)).base + k * sz' ≤ (ρ (.r b)).base + i * sz' + off ∧ (ρ (.r b)).base + i * sz' + off < (ρ (.r b)).base + k * sz' + min m n * sz') := by
              rintro ⟨h6, h7⟩
              rcases Nat.lt_or_ge i k with h8 | h8
              · have := rowIdx (sz := sz') h8 hof; omega
              · have h9 : (k + min m n) * sz' ≤ i * sz' := Nat.mul_le_mul_right _ (by omega)
                rw [Nat.add_mul] at h9; omega
            rw [hget, if_neg h5]
            exact k1)
        obtain ⟨_, _, _, _, hs⟩ := hfill
        have hs2 := hs.put (t := t) (d := .int .i64 (min rows.length n : Nat)) (v := .int .i64 (min m n : Nat)) ht (fun _ _ _ => by rw [repV_of rfl, hm]; simp only [RepR, RepC])
        refine wp_value (v := .int .i64 (min m n : Nat)) (w' := w') ?_ ?_
        · simp only [execOp, ho, resolve, invoke, builtin, List.map_toArray, List.map_cons, List.map_nil, Sem.run_bind, Sem.run_pure, Result.andThen_ok, hv, ey, e1]
        · rw [hd]
          refine ⟨_, _, M, hK, ?_⟩
          have : eff [(t, D.int .i64 (min rows.length n : Nat)), (b, D.blk sz' (cpyR es k (rows.take n)))] [] f = eff [(t, .int .i64 (min rows.length n : Nat))] [] (eff [(b, .blk sz' (cpyR es k (rows.take n)))] [] f) := by
            funext s
            unfold eff
            by_cases h1 : s = t
            · subst h1; simp
            · have e1 : (s == t) = false := by simpa using h1
              simp only [List.lookup_cons, e1, List.lookup_nil, mentL, List.any_nil, Bool.false_eq_true, if_false]
          rw [this]
          exact hs2
    · exact hr.elim
  · exact hr.elim
end
end Go.Gv

namespace Go.Gv
section
variable {P : Program} {F : Fid} {C : Nat → List D → D → List D → Prop} {nt : Nat} {S : Nat → Prop} {L : Nat → Option Loc} {w0 : World} {M0 : Mem} {f : Nat → D} {M : Mem} {a : Act} {w : World} {o : Oper} {d : D} {Q : Exit → Act → World → Prop} {ρ : Pa → Loc} {ω : Nat → Option Pa} {New : Nat → Prop} {K : List (Nat × D) → List (Nat × Bool) → Prop}
theorem cellV_C1 {d : D} (h : isC1 d = true) : cellV d = d := by cases d <;> first | rfl | (simp [isC1] at h)
theorem SR.frzA (h : SR F nt S L w0 M0 f M a w) {t : Nat} (ht : t < 10000) {c sz : Nat} {row : List D} (hft : f t = .adr (.r c) 0 0) (hfc : f c = .blk sz [row]) (hrow : ∀ d ∈ row, isC1 d = true) :
    ∃ M', SR F nt S L w0 M0 (eff [(t, .ptr row), (c, .any)] [] f) M' a w := by
  obtain ⟨ρ, ω, hO⟩ := h.own
  have gp : getP f (.r c) = some (sz, [row]) := by simp only [getP, hfc]
  have hc : 10000 ≤ c := getP_big hO gp
  have hO1 := hO.only hc
  have e1 : getP (fcE f c) (.r c) = getP f (.r c) := getP_only 0
  obtain ⟨v, hv1, hv2⟩ : ∃ v, a.tmps[t]? = some v ∧ RepV F M ρ (f t) v := by
    rcases hO.slots t ht with g | g
    · rw [hft] at g; cases g
    · exact g
  rw [hft, repV_of rfl] at hv2
  have hr := dp1_rep' hO1 hv2 (by simp only [dpOk1, e1, gp])
  have ed : dp1 (fcE f c) (.adr (.r c) 0 0) = .ptr row := by
    simp only [dp1, e1, gp, List.getElem?_cons_zero, Option.getD_some, List.drop_zero]
    congr 1
    conv => rhs; rw [← List.map_id row]
    exact List.map_congr_left fun d hd => cellV_C1 (hrow d hd)
  rw [ed] at hr
  have hle : M.le (Mplus (onlyω ω c) M w) := Mplus_le hO1
  have hE := hO.erase hc
  have hf' : ∀ s, eff [(t, .ptr row), (c, .any)] [] f s = if s = t then .ptr row else fbE f c s := fun s => by
    unfold eff fbE
    by_cases e : s = t
    · subst e; simp
    · have b1 : (s == t) = false := by simpa using e
      by_cases e2 : s = c
      · subst e2
        simp only [List.lookup, b1, beq_self_eq_true, if_neg e, if_true]
      · have b2 : (s == c) = false := by simpa using e2
        simp only [List.lookup, b1, b2, if_neg e, if_neg e2]
        simp [mentL]
  refine ⟨Mplus (onlyω ω c) M w, ⟨h.hnt, h.size, h.defers, h.ch, Mplus_holds h.holds, Mem.le_trans h.ext hle, fun p h1 h2 => ?_, ρ, ersω ω c, ?_⟩⟩
  · by_cases e : M p = none
    · unfold Mplus at h2
      split at h2
      · rename_i q hq
        exact hO.new _ _ (onlyω_some hq).1
      · exact absurd e h2
    · exact h.fresh p h1 e
  · refine hE.step (ks := []) (fun p hp => absurd rfl hp) hle (Nat.le_refl _) (fun s hs => ?_) (fun b hb => ?_) (fun k p e => .inl ⟨p, e⟩) (fun p q e => ?_) (fun b l hb hl hB => ?_)
    · rw [hf']
      by_cases e : s = t
      · subst e
        rw [if_pos rfl]
        refine .inr (.inr ⟨v, hv1, ?_⟩)
        rw [hf', if_pos rfl, repV_of rfl]
        exact hr
      · rw [if_neg e]
        exact .inl (.inr ⟨rfl, rfl, by simp [mentL]⟩)
    · have : b ≠ t := by omega
      rw [hf', if_neg this]
      exact .inl (.inr ⟨rfl, fun p hp => ⟨rfl, fun hw => ⟨hw, rfl⟩⟩⟩)
    · obtain ⟨e2, e3⟩ := ersω_some e
      have e4 : onlyω ω c p.block = none := by
        simp only [onlyω, e2, if_neg e3]
      simp only [Mplus, e4]
      exact hO.apart p q e2
    · have : b ≠ t := by omega
      rw [hf', if_neg this] at hB
      exact ⟨rfl, hB⟩
theorem snd_stP (h : SR F nt S L w0 M0 f M a w) {x y : Opd} {x' y' : Operand} {t : TypeId} (ho : o.op = .store t x' y') (hx : opdOk F x x' = true) (hy : opdOk F y y' = true) (hk : szOf P t 1 = true)
    (hr : resX C f o.dst K (.stP x y)) : o.wp P a w (PostX F nt S L w0 M0 f K) Q := by
  simp only [resX] at hr
  obtain ⟨hd, hr⟩ := hr
  split at hr
  · rename_i s
    obtain ⟨hs, hr⟩ := hr
    split at hr
    · rename_i c i0 o0 hfs
      obtain ⟨rfl, rfl, hr⟩ := hr
      split at hr
      · rename_i sz row hfc
        obtain ⟨hrow, hr⟩ := hr
        split at hr
        · rename_i b i1 o1 i off ex
          obtain ⟨hbc, hr⟩ := hr
          split at hr
          · rename_i sz0 es0 hb
            obtain ⟨row0, h1, sz1, es, h2, r, h3, h4, hK⟩ := hr
            obtain ⟨ρ, ω, hO⟩ := h.own
            have hc : 10000 ≤ c := getP_big hO (show getP f (.r c) = some (sz, [row]) by simp only [getP, hfc])
            have hb0 : 10000 ≤ b := getP_big hO (show getP f (.r b) = some (sz0, es0) by simp only [getP, hb])
            obtain ⟨M', h'⟩ := h.frzA hs hfs hfc hrow
            have look1 : eff [(s, .ptr row), (c, .any)] [] f s = .ptr row := by simp [eff]
            have lookb : eff [(s, .ptr row), (c, .any)] [] f b = f b := by
              have b1 : (b == s) = false := by simp; omega
              have b2 : (b == c) = false := by simpa using hbc
              simp [eff, List.lookup, b1, b2, mentL]
            have lookx : vd (eff [(s, .ptr row), (c, .any)] [] f) x = .adr (.n b i1 o1) i off := by
              cases x with
              | c d => exact ex
              | t q =>
                simp only [vd] at ex ⊢
                have q1 : q ≠ s := fun e => by rw [e, hfs] at ex; cases ex
                have q2 : q ≠ c := fun e => by rw [e, hfc] at ex; cases ex
                have b1 : (q == s) = false := by simpa using q1
                have b2 : (q == c) = false := by simpa using q2
                simp [eff, List.lookup, b1, b2, mentL, ex]
            refine Oper.wp_mono ?_ (snd_st (C := C) (K := fun ws ks => ws = [(b, .blk sz0 (setC es0 i1 o1 1 [.own sz1 (setC es i off 1 [.ptr row])]))] ∧ ks = []) (n := 1) (ns := []) h' hd ho hx hy hk ?_)
            · rintro a' w' ⟨ws, ks, M2, ⟨rfl, rfl⟩, h2⟩
              refine ⟨_, _, M2, hK, ?_⟩
              have e : eff [(b, .blk sz0 (setC es0 i1 o1 1 [.own sz1 (setC es i off 1 [.ptr row])]))] [] (eff [(s, .ptr row), (c, .any)] [] f) = eff [(b, .blk sz0 (setC es0 i1 o1 1 [.own sz1 (setC es i off 1 [.ptr row])])), (s, .ptr row), (c, .any)] [] f := by
                funext q
                unfold eff
                simp only [List.lookup]
                cases e1 : q == b <;> simp [mentL]
              rw [← e]
              exact h2
            · have look2 : vd (eff [(s, .ptr row), (c, .any)] [] f) (.t s) = .ptr row := look1
              simp only [resX, look2, lookx, absW, abs1W, nilC, if_true, true_or, true_and]
              refine ⟨rfl, rfl, ?_⟩
              refine ⟨by simp [isC1], ?_⟩
              rw [lookb, hb]
              exact ⟨row0, h1, sz1, es, h2, r, h3, h4, rfl, trivial⟩
          · exact hr.elim
        · exact hr.elim
      · exact hr.elim
    · exact hr.elim
  · exact hr.elim
end
end Go.Gv

namespace Go.Gv
open Go.RowKit
abbrev Env := List (Nat × D)
def look : Env → Nat → D
  | [], _ => .any
  | (s, d) :: r, t => if s = t then d else look r t
def killE (ks : List (Nat × Bool)) (e : Env) : Env := if ks = [] then e else e.map fun p => (p.1, if mentL ks p.2 then .any else p.2)
theorem look_app (ws : List (Nat × D)) (e : Env) (t : Nat) : look (ws ++ e) t = match ws.lookup t with
    | some d => d
    | none => look e t := by
  induction ws with
  | nil => rfl
  | cons p ws ih =>
    obtain ⟨s, d⟩ := p
    simp only [List.cons_append, look, List.lookup_cons]
    by_cases h : s = t
    · subst h; simp
    · have h1 : (t == s) = false := by simp; exact fun e => h e.symm
      rw [if_neg h, h1]
      exact ih
theorem look_kill (ks : List (Nat × Bool)) : ∀ (e : Env) (t : Nat), look (killE ks e) t = if mentL ks (look e t) then .any else look e t := by
  intro e t
  unfold killE
  by_cases hk : ks = []
  · subst hk; simp [mentL_nil]
  · rw [if_neg hk]
    induction e with
    | nil => 
      show D.any = if mentL ks D.any = true then D.any else D.any
      by_cases hm : mentL ks D.any = true
      · rw [if_pos hm]
      · rw [if_neg hm]
    | cons p e ih =>
      obtain ⟨s, d⟩ := p
      by_cases h : s = t
      · simp [look, h]
      · have h1 : look ((s, d) :: e) t = look e t := by simp [look, h]
        rw [h1, ← ih]
        simp [look, h]
theorem look_eff (ws : List (Nat × D)) (ks : List (Nat × Bool)) (e : Env) : look (ws ++ killE ks e) = eff ws ks (look e) := by
  funext t
  rw [look_app]
  unfold eff
  cases List.lookup t ws with
  | some d => rfl
  | none => exact look_kill ks e t
def skipE (e : Env) (dst : Option Nat) (K : Env → Prop) : Prop :=
  match dst with
  | none => K e
  | some t => K ((t, .tup []) :: e)
def wpOp1 (C : Nat → List D → D → List D → Prop) (dst : Option Nat) (K : Env → Prop) (e : Env) (op : NOp) : Prop := resX C (look e) dst (fun ws ks => K (ws ++ killE ks e)) op
def wpNs (C : Nat → List D → D → List D → Prop) (K : Env → Prop) : List NOper → Env → Prop
  | [], e => K e
  | o :: os, e => match o.guard with
    | none => wpOp1 C o.dst (wpNs C K os) e o.op
    | some (s, want) => match look e s with
      | .bool b => (b = want → wpOp1 C o.dst (wpNs C K os) ((s, .bool want) :: e) o.op) ∧ (b = !want → skipE ((s, .bool !want) :: e) o.dst (wpNs C K os))
      | .tup [] => skipE e o.dst (wpNs C K os)
      | _ => False
section
variable {P : Program} {F : Fid} {C : Nat → List D → D → List D → Prop} {nt : Nat} {S : Nat → Prop} {L : Nat → Option Loc} {w0 : World} {M0 : Mem} {f : Nat → D} {M : Mem} {a : Act} {w : World} {o : Oper} {d : D} {Q : Exit → Act → World → Prop} {ρ : Pa → Loc} {ω : Nat → Option Pa} {New : Nat → Prop} {K : List (Nat × D) → List (Nat × Bool) → Prop}
def opOkX (P : Program) (F : Fid) : NOp → Op → Bool
  | .asg x, .move y => opdOk F x y
  | .asg x, .assign y => opdOk F x y
  | .frz x, .move y => opdOk F x y
  | .frz x, .assign y => opdOk F x y
  | .ldQ _ x, .load t x' => tyS P t 1 false && opdOk F x x'
  | .appQ _ sz by_ x y, .call { callee := .builtin .append, args := ⟨[x', y']⟩, argTypes := ⟨[t, t']⟩ } => t == t' && appOk P t sz by_ && opdOk F x x' && opdOk F y y'
  | .cpy sz x y, .call { callee := .builtin .copy, args := ⟨[x', y']⟩, argTypes := ⟨[t, _]⟩ } => cpyOk P t sz && opdOk F x x' && opdOk F y y'
  | .ldM n x, .load t x' => tyS P t n true && opdOk F x x'
  | .ldF n x, .load t x' => tyS P t n true && opdOk F x x'
  | .stP x y, .store t x' y' => szOf P t 1 && opdOk F x x' && opdOk F y y'
  | .slM len sz x, .slice t x' none none none => (iadAOk P t len sz && decide (len ≤ 16777216)) && opdOk F x x'
  | .nilo _, .move y => opdOk F (.c .nils) y
  | .nilo _, .assign y => opdOk F (.c .nils) y
  | .box _ x, .box _ x' => opdOk F x x'
  | .alc zs, .alloc t => zeroOk P t zs
  | .bls sz len zs _ ps, .buildSlice t len' ps' => len == len' && blsOk P F t sz len zs ps ps'.toList
  | .mks sz by_ zs n c, .makeSlice t n' c' => mksOk P t sz by_ zs && opdOk F n n' && opdOk F c c'
  | .call g xs _, .call { callee := .value (.func fi), args := ys, argTypes := _ } => F g == some fi && opdsOk F xs ys.toList
  | .callF g xs, .call { callee := .value (.func fi), args := ys, argTypes := _ } => F g == some fi && opdsOk F xs ys.toList
  | .callG g xs, .call { callee := .value (.func fi), args := ys, argTypes := _ } => F g == some fi && opdsOk F xs ys.toList
  | .callS g x xs, .call { callee := .value (.func fi), args := ⟨y :: ys⟩, argTypes := _ } => F g == some fi && opdOk F x y && opdsOk F xs ys
  | .callN g x xs, .call { callee := .value (.func fi), args := ⟨y :: ys⟩, argTypes := _ } => F g == some fi && opdOk F x y && opdsOk F xs ys
  | .callE g x xs, .call { callee := .value (.func fi), args := ⟨y :: ys⟩, argTypes := _ } => F g == some fi && opdOk F x y && opdsOk F xs ys
  | .callA g xs, .call { callee := .value (.func fi), args := ys, argTypes := _ } => F g == some fi && opdsOk F xs ys.toList
  | .callL g x xs, .call { callee := .value (.func fi), args := ⟨y :: ys⟩, argTypes := _ } => F g == some fi && opdOk F x y && opdsOk F xs ys
  | .clr zs x, .call { callee := .builtin .clear, args := ⟨[y]⟩, argTypes := ⟨[t]⟩ } => clrOk P t zs && opdOk F x y
  | .callv x xs, .call { callee := .value x', args := ys, argTypes := _ } => opdOk F x x' && opdsOk F xs ys.toList
  | .st n _ x v, .store t x' v' => szOf P t n && opdOk F x x' && opdOk F v v'
  | .app sz by_ _ x y, .call { callee := .builtin .append, args := ⟨[x', y']⟩, argTypes := ⟨[t, t']⟩ } => t == t' && appOk P t sz by_ && opdOk F x x' && opdOk F y y'
  | .mkm _ _, .makeMap _ none => true
  | .mpu sh kt et z m x v, .mapUpdate t m' x' v' => mapOk F t kt et sh z && opdOk F m m' && opdOk F x x' && opdOk F v v'
  | .dead, _ => true
  | p, q => opOk P F p q
theorem after_post {t : Option Nat} (hK : dstK t K d) : ∀ a' w', After F nt S L w0 M0 f t d a' w' → PostX F nt S L w0 M0 f K a' w' := by
  rintro a' w' ⟨M', h⟩
  cases t with
  | none => exact ⟨[], [], M', hK, by rw [eff_nil]; exact h⟩
  | some t => exact ⟨_, _, M', hK, h⟩
theorem op_res (hl : laidOutB F.P = true) (hP : P = F.P) (h : SR F nt S L w0 M0 f M a w) {n : NOp} {q : Op} (hp : putOk nt f o.dst) (ho : o.op = q) (hk : opOk P F n q = true) (hr : res f (· = d) n) : o.wp P a w (After F nt S L w0 M0 f o.dst d) Q := by
  unfold opOk at hk
  split at hk <;> (try simp only [Bool.and_eq_true, beq_iff_eq] at hk)
  · exact snd_mov h hp (.inl ho) hk hr
  · exact snd_mov h hp (.inr ho) hk hr
  · exact snd_nck h hp ho hk hr
  · exact snd_pick h hp ho hk.1.1 hk.1.2 hk.2 hr
  · obtain ⟨⟨rfl, h1⟩, h2⟩ := hk; exact snd_bin h hp ho h1 h2 hr
  · obtain ⟨rfl, h1⟩ := hk; exact snd_un h hp ho h1 hr
  · exact snd_conv h hp ho hk.2 hk.1 hr
  · exact snd_fld h hp ho hk.2 hk.1 hr
  · exact snd_idxA h hp ho hk.1.2 hk.2 hk.1.1 hr
  · exact snd_idxS h hp ho hk.1.2 hk.2 hk.1.1 hr
  · obtain ⟨rfl, h1⟩ := hk; exact snd_ext h hp ho h1 hr
  · exact snd_fad h hp ho hk.2 hk.1 hr
  · exact snd_iadS h hp ho hk.1.2 hk.2 hk.1.1 hr
  · exact snd_iadA h hp ho hk.1.2 hk.2 hk.1.1 hr
  · exact snd_ld h hp ho hk.2 hk.1 hr
  · exact snd_boxF h hp ho hk hr
  · obtain ⟨rfl, h1⟩ := hk; exact snd_blsF h hp ho h1 hr
  · obtain ⟨rfl, h1⟩ := hk; exact snd_blsX h hp ho h1 hr
  · exact snd_bld h hp ho hk hr
  · exact snd_len h hp ho hk.2 hk.1 hr
  · exact snd_lens h hp ho hk.2 hk.1 hr
  · exact snd_mk h hp ho hk.1.2 hk.2 hk.1.1 hr
  · exact snd_slc h hp ho hk.1.1.2 hk.1.2 hk.2 hk.1.1.1 hr
  · exact snd_slS h hp ho hk.1.1.2 hk.1.2 hk.2 hk.1.1.1 hr
  · exact snd_slA h hp ho hk.2 hk.1 hr
  · exact snd_cvS h hp ho hk.2 hk.1 hr
  · exact snd_mn h hp ho hk.1 hk.2 hr
  · exact snd_mx h hp ho hk.1 hk.2 hr
  · obtain ⟨⟨⟨rfl, h1⟩, h2⟩, h3⟩ := hk; exact snd_beq h hp ho h2 h3 h1 hr
  · exact snd_add64 h hp ho hk.1.1.1 hk.1.1.2 hk.1.2 hk.2 hr
  · exact snd_sub64 h hp ho hk.1.1.1 hk.1.1.2 hk.1.2 hk.2 hr
  · obtain ⟨⟨⟨rfl, h1⟩, h2⟩, h3⟩ := hk; exact snd_mpl hl h hp ho h2 h3 h1 hP hr
  · cases hk
theorem appQ_app {t q sz by_ : Nat} {x y : Opd} (h : resX C f (some t) K (.appQ q sz by_ x y)) : resX C f (some t) K (.app sz by_ false x y) := by
  simp only [resX] at h ⊢
  split at h
  · rename_i c i o' k n ex
    obtain ⟨rfl, h⟩ := h
    obtain ⟨rows, bs, ⟨h1, h2, h⟩, hg⟩ := rowsW_one h
    refine hg _ ?_
    subst h1
    simp only [ex]
    split at h
    · rename_i sz0 es0 hf
      obtain ⟨row0, h3, es, h4, h5, h6, h7⟩ := h
      refine ⟨rfl, h2, rfl, ?_⟩
      first | (rw [hf]) | skip
      exact ⟨row0, h3, es, h4, h5, h6, h7⟩
    · exact h.elim
  · exact h.elim
theorem ldQ_ld {dst : Option Nat} {q : Nat} {x : Opd} (h : resX C f dst K (.ldQ q x)) : resX C f dst K (.ld 1 false x) := by
  simp only [resX, res] at h ⊢
  split at h
  · rename_i c i off ex
    obtain ⟨rfl, h⟩ := h
    split at h
    · rename_i sz es hf
      obtain ⟨r, h1, d, h2, h3⟩ := h
      have hl := (List.getElem?_eq_some_iff.1 h2).1
      have gp : getP f (.r c) = some (sz, es) := by simp only [getP, hf]
      simp only [ex, gp]
      refine ⟨r, h1, by omega, ?_⟩
      have : (r.drop off).headD .any = d := by
        rw [List.headD_eq_head?_getD, List.head?_drop, h2]; rfl
      rw [this]
      exact h3
    · exact h.elim
  · exact h.elim
theorem callA_pure {dst : Option Nat} {xs : List Opd} {g : Nat} (h0 : ∀ x ∈ xs, isV (vd f x) = true) (hc : C g (xs.map (vd f)) d []) (hK : dstK dst K d) : (∀ x ∈ xs, dpOk f (vd f x)) ∧ ∃ d, C g (xs.map (dpv f)) d [] ∧ (isF d = true ∨ (xs.all fun x => isV (vd f x)) = true) ∧ dstK dst K d := by
  have e : xs.map (dpv f) = xs.map (vd f) := List.map_congr_left fun x hx => (dp_pure (h0 x hx)).1
  exact ⟨fun x hx => (dp_pure (h0 x hx)).2, d, by rw [e]; exact hc, .inr (List.all_eq_true.2 h0), hK⟩
def NoL (L : Nat → Option Loc) : Prop := ∀ t i, i < 15 → L (rt t i) = none
theorem op_law (hC : CSound P F C) (hL : NoL L) (h : SR F nt S L w0 M0 f M a w) {n : NOp} {q : Op} (hd : ∀ t, o.dst = some t → t < nt) (ho : o.op = q) (hk : opOkX P F n q = true) (hr : resX C f o.dst K n) : o.wp P a w (PostX F nt S L w0 M0 f K) Q := by
  have hp : putOk nt f o.dst := by
    unfold putOk
    split
    · trivial
    · rename_i t e; exact hd t e
  unfold opOkX at hk
  have dst : ∀ {n : NOp}, resX C f none K n → (∀ x, n ≠ .asg x) → (∀ x, n ≠ .nilo x) → True := fun _ _ _ => trivial
  split at hk <;> (try simp only [Bool.and_eq_true, beq_iff_eq] at hk)
  · cases hdst : o.dst with
    | none => rw [hdst] at hr; exact hr.elim
    | some t => rw [hdst] at hr; exact snd_asg h hdst (hd t hdst) (hL t 0 (by decide)) (.inl ho) hk hr
  · cases hdst : o.dst with
    | none => rw [hdst] at hr; exact hr.elim
    | some t => rw [hdst] at hr; exact snd_asg h hdst (hd t hdst) (hL t 0 (by decide)) (.inr ho) hk hr
  · simp only [resX] at hr
    cases hdst : o.dst with
    | none => rw [hdst] at hr; exact hr.elim
    | some t => rw [hdst] at hr; exact snd_frz h hdst (hd t hdst) (.inl ho) hk hr
  · simp only [resX] at hr
    cases hdst : o.dst with
    | none => rw [hdst] at hr; exact hr.elim
    | some t => rw [hdst] at hr; exact snd_frz h hdst (hd t hdst) (.inr ho) hk hr
  · have hr' : res f (dstK o.dst K) (.ld 1 false _) := ldQ_ld hr
    obtain ⟨d, h1, h2⟩ := res_one hr'
    exact Oper.wp_mono (after_post h1) (op_res (n := .ld 1 false _) hC.laid hC.prog h hp ho (by simp only [opOk, Bool.and_eq_true]; exact hk) (h2 _ rfl))
  · obtain ⟨⟨⟨rfl, h1⟩, h2⟩, h3⟩ := hk
    cases hdst : o.dst with
    | none => rw [hdst] at hr; exact hr.elim
    | some t => rw [hdst] at hr; exact snd_app h hdst (hd t hdst) (hL t 0 (by decide)) ho rfl h2 h3 h1 (appQ_app hr)
  · simp only [resX] at hr
    cases hdst : o.dst with
    | none => rw [hdst] at hr; exact hr.elim
    | some t => rw [hdst] at hr; exact snd_cpy h hdst (hd t hdst) ho hk.1.2 hk.2 hk.1.1 hr
  · simp only [resX] at hr
    cases hdst : o.dst with
    | none => rw [hdst] at hr; exact hr.elim
    | some t => rw [hdst] at hr; exact snd_ldM h hL hdst (hd t hdst) ho hk.2 hk.1 hr
  · simp only [resX] at hr
    cases hdst : o.dst with
    | none => rw [hdst] at hr; exact hr.elim
    | some t => rw [hdst] at hr; exact snd_ldF h hdst (hd t hdst) ho hk.2 hk.1 hr
  · exact snd_stP h ho hk.1.2 hk.2 hk.1.1 hr
  · cases hdst : o.dst with
    | none => rw [hdst] at hr; exact hr.elim
    | some t => rw [hdst] at hr; exact snd_slM h hdst (hd t hdst) (hL t 0 (by decide)) ho hk.2 hk.1.1 (of_decide_eq_true hk.1.2) hr
  · cases hdst : o.dst with
    | none => rw [hdst] at hr; exact hr.elim
    | some t => rw [hdst] at hr; exact snd_nilo h hdst (hd t hdst) (hL t 0 (by decide)) (.inl ho) hk hr
  · cases hdst : o.dst with
    | none => rw [hdst] at hr; exact hr.elim
    | some t => rw [hdst] at hr; exact snd_nilo h hdst (hd t hdst) (hL t 0 (by decide)) (.inr ho) hk hr
  · cases hdst : o.dst with
    | none => rw [hdst] at hr; exact hr.elim
    | some t => rw [hdst] at hr; exact snd_box h hdst (hd t hdst) (hL t 0 (by decide)) ho hk hr
  · cases hdst : o.dst with
    | none => rw [hdst] at hr; exact hr.elim
    | some t => rw [hdst] at hr; exact snd_alc h hdst (hd t hdst) (hL t 0 (by decide)) ho hk hr
  · obtain ⟨rfl, hk⟩ := hk
    cases hdst : o.dst with
    | none => rw [hdst] at hr; exact hr.elim
    | some t => rw [hdst] at hr; exact snd_bls h hdst (hd t hdst) (hL t 0 (by decide)) ho hk hr
  · cases hdst : o.dst with
    | none => rw [hdst] at hr; exact hr.elim
    | some t => rw [hdst] at hr; exact snd_mks h hdst (hd t hdst) (hL t 0 (by decide)) ho hk.1.2 hk.2 hk.1.1 hr
  · exact snd_call hC h hp ho hk.2 hk.1 hr
  · simp only [resX] at hr
    cases hdst : o.dst with
    | none => rw [hdst] at hr; exact hr.2.elim
    | some t => rw [hdst] at hr; exact snd_callF hC h hdst (hd t hdst) (hL t 0 (by decide)) ho hk.2 hk.1 hr
  · simp only [resX] at hr
    exact snd_callG hC h hp ho hk.2 hk.1 hr
  · simp only [resX] at hr
    exact snd_callS hC h (fun t => hL t 0 (by decide)) hd ho hk.1.2 hk.2 hk.1.1 hr
  · simp only [resX] at hr
    exact snd_callN hC h hd ho hk.1.2 hk.2 hk.1.1 hr
  · simp only [resX] at hr
    cases hdst : o.dst with
    | none => rw [hdst] at hr; exact hr.elim
    | some t => rw [hdst] at hr; exact snd_callE hC h hdst (hd t hdst) (hL t 0 (by decide)) ho hk.1.2 hk.2 hk.1.1 hr
  · simp only [resX] at hr
    obtain ⟨h0, hr⟩ := hr
    rcases hr with ⟨d, hc, hK⟩ | hr
    · exact snd_call hC h hp ho hk.2 hk.1 (callA_pure h0 hc hK)
    · cases hdst : o.dst with
      | none => rw [hdst] at hr; exact hr.elim
      | some t => rw [hdst] at hr; exact snd_callA hC h hL hdst (hd t hdst) ho hk.2 hk.1 ⟨h0, hr⟩
  · simp only [resX] at hr
    exact snd_callL hC h hd ho hk.1.2 hk.2 hk.1.1 hr
  · simp only [resX] at hr
    exact snd_clr h hd ho hk.2 hk.1 hr
  · exact snd_callv hC h hp ho hk.1 hk.2 hr
  · have hdst : o.dst = none := hr.1
    exact snd_st h hdst ho hk.1.2 hk.2 hk.1.1 (by rw [hdst] at hr; exact hr)
  · obtain ⟨⟨⟨rfl, h1⟩, h2⟩, h3⟩ := hk
    cases hdst : o.dst with
    | none => rw [hdst] at hr; exact hr.elim
    | some t => rw [hdst] at hr; exact snd_app h hdst (hd t hdst) (hL t 0 (by decide)) ho rfl h2 h3 h1 hr
  · cases hdst : o.dst with
    | none => rw [hdst] at hr; exact hr.elim
    | some t => rw [hdst] at hr; exact snd_mkm h hdst (hd t hdst) (hL t 0 (by decide)) ho hr
  · have hdst : o.dst = none := hr.1
    exact snd_mpu hC.laid h hdst ho hk.1.1.2 hk.1.2 hk.2 hk.1.1.1 hC.prog (by rw [hdst] at hr; exact hr)
  · exact hr.elim
  · have hr' : res f (dstK o.dst K) n := by
      clear dst
      cases n <;> first | exact hr | (simp [opOk] at hk)
    obtain ⟨d, h1, h2⟩ := res_one hr'
    exact Oper.wp_mono (after_post h1) (op_res hC.laid hC.prog h hp ho hk (h2 _ rfl))
def dstOk (nt : Nat) : Option Nat → Bool
  | none => true
  | some t => decide (t < nt)
def guardOk (ops : Array Oper) : Option (Nat × Bool) → Option (Nat × Bool) → Bool
  | none, none => true
  | some (j, b), some (s, b') => b == b' && decide (s < 10000) && (match ops[j]? with
    | some o => o.dst == some s
    | none => false)
  | _, _ => false
def nopOk (P : Program) (F : Fid) (nt : Nat) (ops : Array Oper) (n : NOper) (o : Oper) : Bool :=
  n.dst == o.dst && dstOk nt n.dst && guardOk ops o.guard n.guard && opOkX P F n.op o.op
theorem yielded_of {ops : Array Oper} {tmps : Array Value} {j s : Nat} {b : Bool} {o : Oper} (h1 : ops[j]? = some o) (h2 : o.dst = some s) (h3 : tmps[s]? = some (.bool b)) : yielded ops tmps j = some b := by
  simp [yielded, h1, h2, h3]
theorem yielded_tup {ops : Array Oper} {tmps : Array Value} {j s : Nat} {o : Oper} (h1 : ops[j]? = some o) (h2 : o.dst = some s) {vs : Array Value} (h3 : tmps[s]? = some (.tuple vs)) : yielded ops tmps j = none := by
  simp [yielded, h1, h2, h3]
def Skp (want : Bool) (d : D) : Prop := d = .bool (!want) ∨ d = .tup []
theorem wanted_f {ops : Array Oper} {n : NOper} {o : Oper} (h : guardOk ops o.guard n.guard = true) {f : Nat → D} {M : Mem} {a : Act} {w : World} (hs : SR F nt S L w0 M0 f M a w) :
    (n.guard = none → Region.wanted o (yielded ops a.tmps) = true) ∧
    (∀ s want b, n.guard = some (s, want) → f s = .bool b → Region.wanted o (yielded ops a.tmps) = (b == want)) ∧
    (∀ s want, n.guard = some (s, want) → f s = .tup [] → Region.wanted o (yielded ops a.tmps) = false) := by
  unfold guardOk at h
  split at h
  · rename_i e1 e2
    exact ⟨fun _ => by simp [Region.wanted, e1], fun s want b e3 => (by rw [e2] at e3; cases e3), fun s want e3 => (by rw [e2] at e3; cases e3)⟩
  · rename_i j b s b' e1 e2
    simp only [Bool.and_eq_true, beq_iff_eq, decide_eq_true_eq] at h
    obtain ⟨⟨rfl, hs10⟩, h⟩ := h
    split at h
    · rename_i o' ho'
      simp only [beq_iff_eq] at h
      obtain ⟨ρ, ω, hO⟩ := hs.own
      refine ⟨fun e3 => (by rw [e2] at e3; cases e3), fun s1 want b1 e3 e4 => ?_, fun s1 want e3 e4 => ?_⟩
      · rw [e2] at e3
        cases e3
        rcases hO.slots s hs10 with h5 | ⟨v, h5, h6⟩
        · rw [e4] at h5; cases h5
        · rw [e4] at h6
          simp only [RepV, RepR, RepC] at h6
          subst h6
          simp [Region.wanted, e1, yielded_of ho' h h5]
      · rw [e2] at e3
        cases e3
        rcases hO.slots s hs10 with h5 | ⟨v, h5, h6⟩
        · rw [e4] at h5; cases h5
        · rw [e4] at h6
          simp only [RepV, RepR, RepC] at h6
          obtain ⟨vs, rfl, _⟩ := h6
          simp [Region.wanted, e1, yielded_tup ho' h h5]
    · cases h
  · cases h
theorem bool_upd {e : Env} {s : Nat} {b : Bool} (h : look e s = .bool b) : look ((s, .bool b) :: e) = look e := by
  funext t
  simp only [look]
  by_cases ht : s = t
  · subst ht; rw [if_pos rfl, h]
  · rw [if_neg ht]
def StepX (C : Nat → List D → D → List D → Prop) (n : NOper) (f : Nat → D) (x : Option (List (Nat × D) × List (Nat × Bool))) : Prop :=
  match x with
  | some (ws, ks) => (∀ s b, n.guard = some (s, b) → f s = .bool b) ∧ resX C f n.dst (fun ws' ks' => ws' = ws ∧ ks' = ks) n.op
  | none => ∃ s b, n.guard = some (s, b) ∧ Skp b (f s)
def effX (n : NOper) : Option (List (Nat × D) × List (Nat × Bool)) → (Nat → D) → (Nat → D)
  | some (ws, ks) => eff ws ks
  | none => match n.dst with
    | some t => eff [(t, .tup [])] []
    | none => fun f => f
theorem stepF (hC : CSound P F C) (hL : NoL L) {ops : Array Oper} {n : NOper} (hk : nopOk P F nt ops n o = true) (h : SR F nt S L w0 M0 f M a w) {x : Option (List (Nat × D) × List (Nat × Bool))} (hr : StepX C n f x) {R : Act → World → Prop}
    (hR : ∀ M' a' w', SR F nt S L w0 M0 (effX n x f) M' a' w' → R a' w') :
    if Region.wanted o (yielded ops a.tmps) then o.wp P a w R Q ∨ (o.asks P a w ∧ LetsOut Q) else R (a.put o.dst undef) w := by
  unfold nopOk at hk
  simp only [Bool.and_eq_true, beq_iff_eq] at hk
  obtain ⟨⟨⟨hd, hdo⟩, hgu⟩, hop⟩ := hk
  have hw := wanted_f hgu h
  have hdst : ∀ t, o.dst = some t → t < nt := fun t e => by
    rw [← hd] at e
    rw [e] at hdo
    simpa [dstOk] using hdo
  cases x with
  | some y =>
    obtain ⟨ws, ks⟩ := y
    obtain ⟨h1, h2⟩ := hr
    have hwant : Region.wanted o (yielded ops a.tmps) = true := by
      cases hg : n.guard with
      | none => exact hw.1 hg
      | some p => obtain ⟨s, b⟩ := p; rw [hw.2.1 s b b hg (h1 s b hg)]; simp
    rw [hwant, if_pos rfl]
    left
    rw [hd] at h2
    refine Oper.wp_mono ?_ (op_law hC hL h hdst rfl hop h2)
    rintro a' w' ⟨ws', ks', M', ⟨rfl, rfl⟩, h'⟩
    exact hR M' a' w' h'
  | none =>
    obtain ⟨s, b, h1, h2⟩ := hr
    have hno : Region.wanted o (yielded ops a.tmps) = false := by
      rcases h2 with h2 | h2
      · rw [hw.2.1 s b (!b) h1 h2]; cases b <;> rfl
      · exact hw.2.2 s b h1 h2
    rw [hno, if_neg Bool.false_ne_true]
    refine hR M _ w ?_
    unfold effX
    rw [hd]
    cases hdd : o.dst with
    | none => exact h
    | some t => exact h.put (hdst t hdd) (fun _ _ _ => by simp [RepV, RepR, RepC, RepL, undef])
theorem wpNs_step {K : Env → Prop} {n : NOper} {ns : List NOper} {e : Env} (h : wpNs C K (n :: ns) e) : ∃ x e', StepX C n (look e) x ∧ look e' = effX n x (look e) ∧ wpNs C K ns e' := by
  have run : ∀ e1, look e1 = look e → (∀ s b, n.guard = some (s, b) → look e s = .bool b) → wpOp1 C n.dst (wpNs C K ns) e1 n.op → ∃ x e', StepX C n (look e) x ∧ look e' = effX n x (look e) ∧ wpNs C K ns e' := by
    intro e1 he hg h1
    unfold wpOp1 at h1
    obtain ⟨ws, ks, h2, h3⟩ := resX_one h1
    rw [he] at h3
    exact ⟨some (ws, ks), _, ⟨hg, h3 _ ⟨rfl, rfl⟩⟩, by rw [look_eff, he]; rfl, h2⟩
  rw [wpNs] at h
  split at h
  · rename_i hg
    exact run e rfl (fun s b e' => (by rw [hg] at e'; cases e')) h
  · rename_i s want hg
    split at h
    · rename_i b hb
      by_cases hbw : b = want
      · subst hbw
        exact run _ (bool_upd hb) (fun s' b' e' => (by rw [hg] at e'; cases e'; exact hb)) (h.1 rfl)
      · have hb' : b = !want := by cases b <;> cases want <;> simp_all
        have h1 := h.2 hb'
        rw [hb'] at hb
        have he := bool_upd hb
        refine ⟨none, ?_⟩
        unfold skipE at h1
        unfold effX
        split at h1
        · rename_i hd
          exact ⟨_, ⟨s, want, hg, .inl hb⟩, by rw [hd]; exact he, h1⟩
        · rename_i t hd
          refine ⟨_, ⟨s, want, hg, .inl hb⟩, ?_, h1⟩
          rw [hd]
          have := look_eff [(t, .tup [])] [] ((s, .bool !want) :: e)
          simp only [killE, if_true] at this
          rw [he] at this
          exact this
    · rename_i hb
      refine ⟨none, ?_⟩
      unfold skipE at h
      unfold effX
      split at h
      · rename_i hd
        exact ⟨_, ⟨s, want, hg, .inr hb⟩, by rw [hd], h⟩
      · rename_i t hd
        refine ⟨_, ⟨s, want, hg, .inr hb⟩, ?_, h⟩
        rw [hd]
        have := look_eff [(t, .tup [])] [] e
        simp only [killE, if_true] at this
        exact this
    · exact h.elim
theorem wpNs_text (hC : CSound P F C) (hL : NoL L) {ops : Array Oper} {K : Env → Prop} (hQ : ∀ e M a w, SR F nt S L w0 M0 (look e) M a w → K e → Q .normal a w) (ns : List NOper) : ∀ (os : List Oper), ns.length = os.length → (∀ p ∈ ns.zip os, nopOk P F nt ops p.1 p.2 = true) →
    ∀ (e : Env) (M : Mem) (a : Act) (w : World), SR F nt S L w0 M0 (look e) M a w → wpNs C K ns e → wpList P ops Q os a w := by
  induction ns with
  | nil =>
    intro os hl _ e M a w h hr
    cases os with
    | nil => exact hQ e M a w h hr
    | cons o os => simp at hl
  | cons n ns ih =>
    intro os hl hk e M a w h hr
    cases os with
    | nil => simp at hl
    | cons o os =>
      obtain ⟨x, e', h1, h2, h3⟩ := wpNs_step hr
      rw [wpList]
      exact stepF hC hL (hk (n, o) (by simp)) h h1 (fun M' a' w' h' => ih os (by simpa using hl) (fun p hp => hk p (by simp [hp])) e' M' a' w' (by rw [h2]; exact h') h3)
def regOk (P : Program) (F : Fid) (nt : Nat) (ns : List NOper) (ops : Array Oper) : Bool := ns.length == ops.toList.length && (ns.zip ops.toList).all fun p => nopOk P F nt ops p.1 p.2
theorem region_text (hC : CSound P F C) (hL : NoL L) {ops : Array Oper} {ns : List NOper} (hk : regOk P F nt ns ops = true) {id : Nat} {K : Env → Prop} {e : Env} (h : SR F nt S L w0 M0 (look e) M a w) (hr : wpNs C K ns e) (hQ : ∀ e M a w, SR F nt S L w0 M0 (look e) M a w → K e → Q .normal a w) :
    (Code.region id ops false).wp P Q a w := by
  simp only [regOk, Bool.and_eq_true, beq_iff_eq, List.all_eq_true] at hk
  exact wp_region_list (wpNs_text hC hL hQ ns ops.toList hk.1 hk.2 e M a w h hr)
end
end Go.Gv

namespace Go.Gv
open Go.RowKit
def optL : Option Opd → List Opd
  | some x => [x]
  | none => []
def opdsOf : NOp → List Opd
  | .mov x => [x]
  | .asg x => [x]
  | .frz x => [x]
  | .ldF _ x => [x]
  | .stP x y => [x, y]
  | .ldQ _ x => [x]
  | .appQ _ _ _ x y => [x, y]
  | .cpy _ x y => [x, y]
  | .ldM _ x => [x]
  | .nilo _ => []
  | .nck x => [x]
  | .boxF x => [x]
  | .blsF _ _ _ ps => ps.map fun p => p.2
  | .blsX _ _ _ ps => ps.map fun p => p.2
  | .pick c a b => [c, a, b]
  | .bin _ x y => [x, y]
  | .beq _ _ x y => [x, y]
  | .un _ x => [x]
  | .conv _ x => [x]
  | .fld _ _ _ x => [x]
  | .idxA _ _ _ x i => [x, i]
  | .idxS x i => [x, i]
  | .ext _ x => [x]
  | .fad _ x => [x]
  | .iadS _ x i => [x, i]
  | .iadA _ _ x i => [x, i]
  | .ld _ _ x => [x]
  | .box _ x => [x]
  | .alc _ => []
  | .mkm _ _ => []
  | .mpl _ _ _ _ _ m x => [m, x]
  | .mpu _ _ _ _ m x v => [m, x, v]
  | .bld _ ps => ps.map fun p => p.2.2
  | .bls _ _ _ _ ps => ps.map fun p => p.2
  | .mks _ _ _ n c => [n, c]
  | .len x => [x]
  | .lens x => [x]
  | .call _ xs _ => xs
  | .callv x xs => x :: xs
  | .callF _ xs => xs
  | .callG _ xs => xs
  | .callS _ x xs => x :: xs
  | .callN _ x xs => x :: xs
  | .callE _ x xs => x :: xs
  | .callL _ x xs => x :: xs
  | .callA _ xs => xs
  | .clr _ x => [x]
  | .mk _ xs => xs
  | .slc _ x lo hi => x :: (optL lo ++ optL hi)
  | .slS x lo hi => x :: (optL lo ++ optL hi)
  | .slA _ _ x => [x]
  | .slM _ _ x => [x]
  | .cvS x => [x]
  | .mn x y => [x, y]
  | .mx x y => [x, y]
  | .add64 x y c => [x, y, c]
  | .sub64 x y c => [x, y, c]
  | .st _ _ a v => [a, v]
  | .app _ _ _ x y => [x, y]
  | .dead => []
section
variable {C : Nat → List D → D → List D → Prop} {f g : Nat → D}
def AgreeD (f g : Nat → D) (d : D) : Prop := ∀ b, ment b true d = true → g b = f b
theorem mentP_root (p : Pa) : mentP p.root true p = true := by cases p <;> simp [mentP, Pa.root]
theorem getP_local {p : Pa} (h : g p.root = f p.root) : getP g p = getP f p := by
  cases p <;> simp only [getP, Pa.root] at h ⊢ <;> rw [h]
theorem AgreeD.ref {p : Pa} {k n : Nat} (h : AgreeD f g (.ref p k n)) : g p.root = f p.root := h _ (by simp only [ment, ment1]; exact mentP_root p)
theorem AgreeD.adr {p : Pa} {i o : Nat} (h : AgreeD f g (.adr p i o)) : g p.root = f p.root := h _ (by simp only [ment, ment1]; exact mentP_root p)
theorem AgreeD.mrf {b : Nat} (h : AgreeD f g (.mrf b)) : g b = f b := h _ (by simp [ment, ment1])
theorem dp1_local {d : D} (h : ∀ b, ment1 b true d = true → g b = f b) : dp1 g d = dp1 f d ∧ (dpOk1 g d ↔ dpOk1 f d) := by
  cases d <;> try exact ⟨rfl, Iff.rfl⟩
  case ref p k n =>
    have e := getP_local (p := p) (h _ (by simp only [ment1]; exact mentP_root p))
    simp only [dp1, dpOk1, e, and_self]
  case adr p i off =>
    have e := getP_local (p := p) (h _ (by simp only [ment1]; exact mentP_root p))
    simp only [dp1, dpOk1, e, and_self]
theorem ment_part {b : Nat} {ds : List D} {d : D} (h : d ∈ ds) (hm : ment1 b true d = true) : ds.any (ment1 b true) = true := List.any_eq_true.2 ⟨d, h, hm⟩
theorem dp_plain {d : D} (h : isX d = false) (ha : AgreeD f g d) : dp g d = dp f d ∧ (dpOk g d ↔ dpOk f d) := by
  have e : ∀ f : Nat → D, dp f d = dp1 f d ∧ (dpOk f d ↔ dpOk1 f d) ∧ ∀ b, ment b true d = ment1 b true d := fun f => by
    cases d <;> first | exact ⟨rfl, Iff.rfl, fun _ => rfl⟩ | (simp [isX] at h)
  obtain ⟨e1, e2, e3⟩ := e f
  obtain ⟨g1, g2, _⟩ := e g
  obtain ⟨h1, h2⟩ := dp1_local (f := f) (g := g) (d := d) (fun b hb => ha b (by rw [e3]; exact hb))
  exact ⟨by rw [g1, e1, h1], by rw [g2, e2]; exact h2⟩
theorem dp_local {d : D} (h : AgreeD f g d) : dp g d = dp f d ∧ (dpOk g d ↔ dpOk f d) := by
  cases d
  case agx ds =>
    have e : ∀ d ∈ ds, dp1 g d = dp1 f d ∧ (dpOk1 g d ↔ dpOk1 f d) := fun d hd => dp1_local fun b hb => h b (ment_part hd hb)
    simp only [dp, dpOk]
    exact ⟨by rw [List.map_congr_left fun d hd => (e d hd).1], ⟨fun x d hd => (e d hd).2.1 (x d hd), fun x d hd => (e d hd).2.2 (x d hd)⟩⟩
  case tpx ds =>
    have e : ∀ d ∈ ds, dp1 g d = dp1 f d ∧ (dpOk1 g d ↔ dpOk1 f d) := fun d hd => dp1_local fun b hb => h b (ment_part hd hb)
    simp only [dp, dpOk]
    exact ⟨by rw [List.map_congr_left fun d hd => (e d hd).1], ⟨fun x d hd => (e d hd).2.1 (x d hd), fun x d hd => (e d hd).2.2 (x d hd)⟩⟩
  case ptx ds =>
    have e : ∀ d ∈ ds, dp1 g d = dp1 f d ∧ (dpOk1 g d ↔ dpOk1 f d) := fun d hd => dp1_local fun b hb => h b (ment_part hd hb)
    simp only [dp, dpOk]
    exact ⟨by rw [List.map_congr_left fun d hd => (e d hd).1], ⟨fun x d hd => (e d hd).2.1 (x d hd), fun x d hd => (e d hd).2.2 (x d hd)⟩⟩
  case rfx n sz ds => exact ⟨rfl, Iff.rfl⟩
  case fnx k ds =>
    have e : ∀ d ∈ ds, dp1 g d = dp1 f d ∧ (dpOk1 g d ↔ dpOk1 f d) := fun d hd => dp1_local fun b hb => h b (ment_part hd hb)
    simp only [dp, dpOk]
    exact ⟨by rw [List.map_congr_left fun d hd => (e d hd).1], ⟨fun x d hd => (e d hd).2.1 (x d hd), fun x d hd => (e d hd).2.2 (x d hd)⟩⟩
  all_goals
    exact dp_plain rfl h
theorem abs1W_local {d : D} {K : D → List Nat → Prop} (h : ∀ b, ment1 b true d = true → g b = f b) (hr : abs1W f d K) : abs1W g d K := by
  unfold abs1W at hr ⊢
  split at hr
  · rename_i b k n
    rw [h b (by simp [ment1, mentP])]
    exact hr
  · exact hr
theorem absLW_local : ∀ {ds : List D} {K : List D → List Nat → Prop}, (∀ d ∈ ds, ∀ b, ment1 b true d = true → g b = f b) → absLW f ds K → absLW g ds K
  | [], K, _, hr => hr
  | d :: ds, K, h, hr => by
    obtain ⟨c, bs, h1, h2⟩ := abs1W_one hr
    obtain ⟨cs, bs', h3, h4⟩ := absLW_one h1
    refine abs1W_local (h d (by simp)) (h2 _ (absLW_local (fun d hd => h d (by simp [hd])) (h4 _ h3)))
theorem absW_local {d : D} {ns : List Nat} {K : List D → List Nat → Prop} (h : AgreeD f g d) (hr : absW f d ns K) : absW g d ns K := by
  unfold absW at hr ⊢
  split at hr
  · exact hr
  · exact ⟨hr.1, absLW_local (fun d hd b hb => h b (ment_part hd hb)) hr.2⟩
  · rename_i hne1 hne2
    refine ⟨hr.1, abs1W_local (fun b hb => h b ?_) hr.2⟩
    cases d <;> first | exact hb | (exact absurd rfl (hne2 _)) | (simp [ment1] at hb)
theorem partsW_local {sz : Nat} {ns : List Nat} : ∀ {ps : List (Nat × Opd)} {es : List (List D)} {bs : List Nat} {K : List (List D) → List Nat → Prop}, (∀ p ∈ ps, vd g p.2 = vd f p.2 ∧ AgreeD f g (vd f p.2)) → partsW f sz ns ps es bs K → partsW g sz ns ps es bs K
  | [], es, bs, K, _, hr => hr
  | (i, x) :: ps, es, bs, K, h, hr => by
    obtain ⟨h0, hr⟩ := hr
    obtain ⟨e1, e2⟩ := h (i, x) (by simp)
    obtain ⟨cs, b1, ⟨h1, h1'⟩, h2⟩ := absW_one hr
    refine ⟨h0, ?_⟩
    simp only at e1 e2
    rw [e1]
    exact absW_local e2 (h2 _ ⟨h1, partsW_local (fun p hp => h p (by simp [hp])) h1'⟩)
theorem rowsW_local {mv : Bool} {d : D} {sz : Nat} {K : List (List D) → List Nat → Prop} (h : AgreeD f g d) (hr : rowsW f mv d sz K) : rowsW g mv d sz K := by
  unfold rowsW at hr ⊢
  split at hr
  · exact hr
  · exact hr
  · rename_i p k n
    cases mv with
    | true =>
      obtain ⟨h0, hr⟩ := hr
      refine ⟨h0, ?_⟩
      cases p with
      | r b => simp only at hr ⊢; rw [show g b = f b from h.ref]; exact hr
      | n b i o => exact hr
    | false => simp only at hr ⊢; rw [getP_local h.ref]; exact hr
  · exact hr
theorem bound_local {x : Option Opd} {n : Nat} {K : Nat → Prop} (h : ∀ y ∈ optL x, vd g y = vd f y) (hr : bound f x n K) : bound g x n K := by
  unfold bound at hr ⊢
  split at hr
  · exact hr
  · rename_i y
    rw [h y (by simp [optL])]
    exact hr
theorem fillR_local : ∀ {ps : List (Nat × Opd)} {es : List (List D)}, (∀ p ∈ ps, vd g p.2 = vd f p.2) → fillR g ps es = fillR f ps es
  | [], _, _ => rfl
  | p :: ps, es, h => by
    simp only [fillR]
    rw [h p (by simp)]
    exact fillR_local fun q hq => h q (by simp [hq])
theorem cellsX_local {sz len : Nat} {zs : List D} {ps : List (Nat × Opd)} (h : ∀ p ∈ ps, vd g p.2 = vd f p.2) : cellsX g sz len zs ps = cellsX f sz len zs ps := by
  unfold cellsX
  rw [List.map_congr_left (fun p hp => by rw [h p hp])]
theorem res_local {o : NOp} {K : D → Prop} (hv : ∀ x ∈ opdsOf o, vd g x = vd f x) (ha : ∀ x ∈ opdsOf o, AgreeD f g (vd f x)) (hr : res f K o) : res g K o := by
  cases o with
  | ld n ag x =>
    have e := hv x (by simp [opdsOf]); have a := ha x (by simp [opdsOf])
    simp only [res, e] at hr ⊢
    split at hr
    · rename_i ex; rw [ex] at a; rw [getP_local a.adr]; exact hr
    · exact hr
    · exact hr
    · exact hr
  | iadS sz x i =>
    have e := hv x (by simp [opdsOf]); have a := ha x (by simp [opdsOf]); have e2 := hv i (by simp [opdsOf])
    simp only [res, e, e2] at hr ⊢
    split at hr
    · exact hr
    · exact hr
    · rename_i ex _; rw [ex] at a; rw [getP_local a.ref]; exact hr
    · exact hr
  | slc sz x lo hi =>
    have e := hv x (by simp [opdsOf]); have a := ha x (by simp [opdsOf])
    have hlo : ∀ y ∈ optL lo, vd g y = vd f y := fun y hy => hv y (by simp [opdsOf, hy])
    have hhi : ∀ y ∈ optL hi, vd g y = vd f y := fun y hy => hv y (by simp [opdsOf, hy])
    simp only [res, e] at hr ⊢
    split at hr
    · exact ⟨hr.1, bound_local hhi (bound_mono hr.2 fun m h => bound_local hlo h)⟩
    · exact bound_local hhi (bound_mono hr fun m h => bound_local hlo h)
    · rename_i ex
      rw [ex] at a; rw [getP_local a.ref]
      split at hr
      · exact ⟨hr.1, bound_local hhi (bound_mono hr.2 fun m h => bound_local hlo h)⟩
      · exact hr
    · exact hr
  | slS x lo hi =>
    have e := hv x (by simp [opdsOf])
    have hlo : ∀ y ∈ optL lo, vd g y = vd f y := fun y hy => hv y (by simp [opdsOf, hy])
    have hhi : ∀ y ∈ optL hi, vd g y = vd f y := fun y hy => hv y (by simp [opdsOf, hy])
    simp only [res, e] at hr ⊢
    split at hr
    · exact bound_local hhi (bound_mono hr fun m h => bound_local hlo h)
    · exact hr
  | bld zs ps =>
    have e : ∀ p ∈ ps, vd g p.2.2 = vd f p.2.2 := fun p hp => hv _ (List.mem_map.2 ⟨p, hp, rfl⟩)
    simp only [res] at hr ⊢
    obtain ⟨h1, h2, h3⟩ := hr
    have e2 : (ps.all fun p => isV (vd g p.2.2)) = (ps.all fun p => isV (vd f p.2.2)) := by
      rw [Bool.eq_iff_iff, List.all_eq_true, List.all_eq_true]
      exact ⟨fun h p hp => by rw [← e p hp]; exact h p hp, fun h p hp => by rw [e p hp]; exact h p hp⟩
    have m1 : (ps.map fun p => (p.1, p.2.1, vd g p.2.2)) = ps.map fun p => (p.1, p.2.1, vd f p.2.2) := List.map_congr_left fun p hp => by rw [e p hp]
    have m2 : (ps.map fun p => (p.1, p.2.1, aggOf (vd g p.2.2))) = ps.map fun p => (p.1, p.2.1, aggOf (vd f p.2.2)) := List.map_congr_left fun p hp => by rw [e p hp]
    rw [e2, m1, m2]
    exact ⟨fun p hp => by rw [e p hp]; exact h1 p hp, h2, h3⟩
  | mk k xs =>
    have e : ∀ x ∈ xs, vd g x = vd f x := fun x hx => hv x hx
    simp only [res] at hr ⊢
    obtain ⟨h1, h2, h3⟩ := hr
    have e2 : (xs.all fun x => isV (vd g x)) = (xs.all fun x => isV (vd f x)) := by
      rw [Bool.eq_iff_iff, List.all_eq_true, List.all_eq_true]
      exact ⟨fun h p hp => by rw [← e p hp]; exact h p hp, fun h p hp => by rw [e p hp]; exact h p hp⟩
    rw [e2, List.map_congr_left e]
    exact ⟨fun p hp => by rw [e p hp]; exact h1 p hp, h2, h3⟩
  | pick c x y => simp only [res, hv c (by simp [opdsOf]), hv x (by simp [opdsOf]), hv y (by simp [opdsOf])] at hr ⊢; exact hr
  | add64 x y c => simp only [res, hv c (by simp [opdsOf]), hv x (by simp [opdsOf]), hv y (by simp [opdsOf])] at hr ⊢; exact hr
  | sub64 x y c => simp only [res, hv c (by simp [opdsOf]), hv x (by simp [opdsOf]), hv y (by simp [opdsOf])] at hr ⊢; exact hr
  | bin op x y => simp only [res, hv x (by simp [opdsOf]), hv y (by simp [opdsOf])] at hr ⊢; exact hr
  | beq op ks x y => simp only [res, hv x (by simp [opdsOf]), hv y (by simp [opdsOf])] at hr ⊢; exact hr
  | idxA l s g x i => simp only [res, hv x (by simp [opdsOf]), hv i (by simp [opdsOf])] at hr ⊢; exact hr
  | idxS x i => simp only [res, hv x (by simp [opdsOf]), hv i (by simp [opdsOf])] at hr ⊢; exact hr
  | iadA l s x i => simp only [res, hv x (by simp [opdsOf]), hv i (by simp [opdsOf])] at hr ⊢; exact hr
  | mn x y => simp only [res, hv x (by simp [opdsOf]), hv y (by simp [opdsOf])] at hr ⊢; exact hr
  | mx x y => simp only [res, hv x (by simp [opdsOf]), hv y (by simp [opdsOf])] at hr ⊢; exact hr
  | mov x => simp only [res, hv x (by simp [opdsOf])] at hr ⊢; exact hr
  | nck x => simp only [res, hv x (by simp [opdsOf])] at hr ⊢; exact hr
  | un op x => simp only [res, hv x (by simp [opdsOf])] at hr ⊢; exact hr
  | conv k x => simp only [res, hv x (by simp [opdsOf])] at hr ⊢; exact hr
  | slA l s x => simp only [res, hv x (by simp [opdsOf])] at hr ⊢; exact hr
  | cvS x => simp only [res, hv x (by simp [opdsOf])] at hr ⊢; exact hr
  | fld a b c x => simp only [res, hv x (by simp [opdsOf])] at hr ⊢; exact hr
  | ext i x => simp only [res, hv x (by simp [opdsOf])] at hr ⊢; exact hr
  | fad i x => simp only [res, hv x (by simp [opdsOf])] at hr ⊢; exact hr
  | len x => simp only [res, hv x (by simp [opdsOf])] at hr ⊢; exact hr
  | boxF x => simp only [res, hv x (by simp [opdsOf])] at hr ⊢; exact hr
  | blsF sz len zs ps =>
    have e : ∀ p ∈ ps, vd g p.2 = vd f p.2 := fun p hp => hv _ (List.mem_map.2 ⟨p, hp, rfl⟩)
    simp only [res] at hr ⊢
    rw [fillR_local e]
    exact ⟨fun p hp => by rw [e p hp]; exact hr.1 p hp, hr.2⟩
  | blsX sz len zs ps =>
    have e : ∀ p ∈ ps, vd g p.2 = vd f p.2 := fun p hp => hv _ (List.mem_map.2 ⟨p, hp, rfl⟩)
    simp only [res] at hr ⊢
    rw [cellsX_local e]
    exact ⟨hr.1, fun p hp => by rw [e p hp]; exact hr.2.1 p hp, hr.2.2⟩
  | lens x => simp only [res, hv x (by simp [opdsOf])] at hr ⊢; exact hr
  | mpl sh kt et ok z m x =>
    have e := hv m (by simp [opdsOf]); have a := ha m (by simp [opdsOf]); have e2 := hv x (by simp [opdsOf])
    simp only [res, e, e2] at hr ⊢
    split at hr
    · rename_i b ex
      rw [ex] at a
      rw [a.mrf]
      exact hr
    · exact hr
  | _ => simp only [res] at hr
theorem resX_local {o : NOp} {dst : Option Nat} {K : List (Nat × D) → List (Nat × Bool) → Prop} (hv : ∀ x ∈ opdsOf o, vd g x = vd f x) (ha : ∀ x ∈ opdsOf o, AgreeD f g (vd f x)) (hr : resX C f dst K o) : resX C g dst K o := by
  cases o with
  | frz x =>
    have e := hv x (by simp [opdsOf]); have a := ha x (by simp [opdsOf])
    cases dst with
    | none => exact hr
    | some t =>
      simp only [resX, e] at hr ⊢
      split at hr
      · rename_i c k n ex
        rw [ex] at a
        have hl := dp1_local (d := .ref (.r c) k n) (f := f) (g := g) (fun b hb => a b (by simp only [ment]; exact hb))
        rw [hl.1]
        exact ⟨hl.2.2 hr.1, hr.2⟩
      · exact hr
  | asg x =>
    have e := hv x (by simp [opdsOf]); have a := ha x (by simp [opdsOf])
    cases dst with
    | none => exact hr
    | some t =>
      simp only [resX, e] at hr ⊢
      split at hr
      · rename_i c k n ex
        rw [ex] at a
        rw [show g c = f c from a.ref]
        exact hr
      · exact hr
  | ldQ q x =>
    have e := hv x (by simp [opdsOf]); have a := ha x (by simp [opdsOf])
    simp only [resX, e] at hr ⊢
    split at hr
    · rename_i c i off ex
      rw [ex] at a
      rw [show g c = f c from a.adr]
      exact hr
    · exact hr
  | appQ q sz by_ x y =>
    have e := hv x (by simp [opdsOf]); have a := ha x (by simp [opdsOf]); have e2 := hv y (by simp [opdsOf]); have a2 := ha y (by simp [opdsOf])
    cases dst with
    | none => exact hr
    | some t =>
      simp only [resX, e, e2] at hr ⊢
      split at hr
      · rename_i c i o k n ex
        rw [ex] at a
        obtain ⟨h0, hr⟩ := hr
        obtain ⟨rows, bs, ⟨h1, h1', h2⟩, h3⟩ := rowsW_one hr
        refine ⟨h0, rowsW_local a2 (h3 _ ⟨h1, h1', ?_⟩)⟩
        rw [show g c = f c from a.ref]
        exact h2
      · exact hr
  | cpy sz x y =>
    have e := hv x (by simp [opdsOf]); have a := ha x (by simp [opdsOf]); have e2 := hv y (by simp [opdsOf]); have a2 := ha y (by simp [opdsOf])
    cases dst with
    | none => exact hr
    | some t =>
      simp only [resX, e, e2] at hr ⊢
      obtain ⟨rows, bs, ⟨h1, h1', h2⟩, h3⟩ := rowsW_one hr
      refine rowsW_local a2 (h3 _ ⟨h1, h1', ?_⟩)
      split at h2
      · rename_i c k n ex; rw [ex] at a; rw [show g c = f c from a.ref]; exact h2
      · exact h2
  | ldM n x =>
    have e := hv x (by simp [opdsOf]); have a := ha x (by simp [opdsOf])
    cases dst with
    | none => exact hr
    | some t =>
      simp only [resX, e] at hr ⊢
      split at hr
      · rename_i c i off ex
        rw [ex] at a
        rw [show g c = f c from a.adr]
        exact hr
      · exact hr
  | stP x y =>
    have e := hv x (by simp [opdsOf]); have a := ha x (by simp [opdsOf]); have e2 := hv y (by simp [opdsOf]); have a2 := ha y (by simp [opdsOf])
    simp only [resX, e] at hr ⊢
    refine ⟨hr.1, ?_⟩
    have hr := hr.2
    split at hr
    · rename_i s
      simp only [vd] at e2 a2
      rw [e2]
      refine ⟨hr.1, ?_⟩
      have hr := hr.2
      split at hr
      · rename_i c i0 o0 ex
        rw [ex] at a2
        rw [show g c = f c from a2.adr]
        refine ⟨hr.1, hr.2.1, ?_⟩
        have hr := hr.2.2
        split at hr
        · refine ⟨hr.1, ?_⟩
          have hr := hr.2
          split at hr
          · rename_i b i1 o1 i off ex2
            rw [ex2] at a
            rw [show g b = f b from a.adr]
            exact hr
          · exact hr
        · exact hr
      · exact hr
    · exact hr
  | ldF n x =>
    have e := hv x (by simp [opdsOf]); have a := ha x (by simp [opdsOf])
    cases dst with
    | none => exact hr
    | some t =>
      simp only [resX, e] at hr ⊢
      split at hr
      · rename_i c i off ex
        rw [ex] at a
        rw [show g c = f c from a.adr]
        exact hr
      · exact hr
  | slM len sz x =>
    have e := hv x (by simp [opdsOf]); have a := ha x (by simp [opdsOf])
    cases dst with
    | none => exact hr
    | some t =>
      simp only [resX, e] at hr ⊢
      split at hr
      · rename_i c i off ex
        rw [ex] at a
        rw [show g c = f c from a.adr]
        exact hr
      · exact hr
  | nilo sz => exact hr
  | alc zs => exact hr
  | mkm kt et => exact hr
  | mpu sh kt et z m x v =>
    have e := hv m (by simp [opdsOf]); have a := ha m (by simp [opdsOf]); have e2 := hv x (by simp [opdsOf]); have e3 := hv v (by simp [opdsOf])
    simp only [resX, e, e2, e3] at hr ⊢
    refine ⟨hr.1, ?_⟩
    have hr := hr.2
    split at hr
    · rename_i b ex
      rw [ex] at a
      rw [a.mrf]
      exact hr
    · exact hr
  | box ns x =>
    have e := hv x (by simp [opdsOf]); have a := ha x (by simp [opdsOf])
    cases dst with
    | none => exact hr
    | some t => simp only [resX, e] at hr ⊢; exact absW_local a hr
  | bls sz len zs ns ps =>
    cases dst with
    | none => exact hr
    | some t => simp only [resX] at hr ⊢; exact partsW_local (fun p hp => ⟨hv _ (List.mem_map.2 ⟨p, hp, rfl⟩), ha _ (List.mem_map.2 ⟨p, hp, rfl⟩)⟩) hr
  | mks sz by_ zs n c =>
    have e := hv n (by simp [opdsOf]); have e2 := hv c (by simp [opdsOf])
    cases dst with
    | none => exact hr
    | some t => simp only [resX, e, e2] at hr ⊢; exact hr
  | st n ns x v =>
    have e := hv x (by simp [opdsOf]); have a := ha x (by simp [opdsOf]); have e2 := hv v (by simp [opdsOf]); have a2 := ha v (by simp [opdsOf])
    simp only [resX, e, e2] at hr ⊢
    obtain ⟨h0, hr⟩ := hr
    refine ⟨h0, ?_⟩
    obtain ⟨cs, bs, ⟨h1, h2⟩, h3⟩ := absW_one hr
    refine absW_local a2 (h3 _ ⟨h1, ?_⟩)
    split at h2
    · rename_i b i off ex; rw [ex] at a; rw [show g b = f b from a.adr]; exact h2
    · rename_i b i0 o0 i off ex; rw [ex] at a; rw [show g b = f b from a.adr]; exact h2
    · exact h2
  | app sz by_ mv x y =>
    have e := hv x (by simp [opdsOf]); have a := ha x (by simp [opdsOf]); have e2 := hv y (by simp [opdsOf]); have a2 := ha y (by simp [opdsOf])
    cases dst with
    | none => exact hr
    | some t =>
      simp only [resX, e, e2] at hr ⊢
      obtain ⟨rows, bs, ⟨h1, h2⟩, h3⟩ := rowsW_one hr
      refine rowsW_local a2 (h3 _ ⟨h1, ?_⟩)
      split at h2
      · exact h2
      · rename_i c k n ex; rw [ex] at a; rw [show g c = f c from a.ref]; exact h2
      · rename_i c i o k n ex; rw [ex] at a; rw [show g c = f c from a.ref]; exact h2
      · exact h2
  | call k xs ms =>
    simp only [resX] at hr ⊢
    obtain ⟨h0, d, h1, h2, h3⟩ := hr
    have e : ∀ x ∈ xs, dpv g x = dpv f x ∧ (dpOk g (vd g x) ↔ dpOk f (vd f x)) := fun x hx => by
      have := dp_local (ha x hx)
      unfold dpv
      rw [hv x hx]
      exact this
    refine ⟨fun x hx => (e x hx).2.2 (h0 x hx), d, by rw [List.map_congr_left fun x hx => (e x hx).1]; exact h1, h2.imp id (fun h => ?_), h3⟩
    rw [List.all_eq_true] at h ⊢
    exact fun x hx => by rw [hv x hx]; exact h x hx
  | callG k xs =>
    have e : ∀ x ∈ xs, dpv g x = dpv f x ∧ (dpOk g (vd g x) ↔ dpOk f (vd f x)) := fun x hx => by
      have := dp_local (ha x hx)
      unfold dpv
      rw [hv x hx]
      exact this
    simp only [resX] at hr ⊢
    rw [List.map_congr_left fun x hx => (e x hx).1]
    exact ⟨fun x hx => (e x hx).2.2 (hr.1 x hx), hr.2⟩
  | callF k xs =>
    have e : ∀ x ∈ xs, dpv g x = dpv f x ∧ (dpOk g (vd g x) ↔ dpOk f (vd f x)) := fun x hx => by
      have := dp_local (ha x hx)
      unfold dpv
      rw [hv x hx]
      exact this
    simp only [resX] at hr ⊢
    rw [List.map_congr_left fun x hx => (e x hx).1]
    exact ⟨fun x hx => (e x hx).2.2 (hr.1 x hx), hr.2⟩
  | callS k x0 xs =>
    have e0 := hv x0 (by simp [opdsOf]); have a0 := ha x0 (by simp [opdsOf])
    have eb : ∀ b, ∀ x ∈ xs, vd (fbE g b) x = vd (fbE f b) x ∧ AgreeD (fbE f b) (fbE g b) (vd (fbE f b) x) := fun b x hx => by
      have h1 := hv x (by simp [opdsOf, hx])
      have h2 := ha x (by simp [opdsOf, hx])
      have hag : AgreeD (fbE f b) (fbE g b) (vd f x) := fun c hc => by
        unfold fbE
        split
        · rfl
        · exact h2 c hc
      cases x with
      | t t =>
        simp only [vd] at h1 hag ⊢
        unfold fbE
        split
        · exact ⟨rfl, fun c hc => by simp [ment, ment1] at hc⟩
        · exact ⟨h1, hag⟩
      | c d => exact ⟨rfl, hag⟩
    have ed : ∀ b, ∀ x ∈ xs, dpv (fbE g b) x = dpv (fbE f b) x ∧ (dpOk (fbE g b) (vd (fbE g b) x) ↔ dpOk (fbE f b) (vd (fbE f b) x)) := fun b x hx => by
      have := dp_local (eb b x hx).2
      unfold dpv
      rw [(eb b x hx).1]
      exact this
    have eo : ∀ b es', okFd (fbE g b) xs es' ↔ okFd (fbE f b) xs es' := fun b es' => by
      unfold okFd
      rw [List.all_eq_true, List.all_eq_true]
      exact or_congr ⟨fun h x hx => by rw [← (eb b x hx).1]; exact h x hx, fun h x hx => by rw [(eb b x hx).1]; exact h x hx⟩ Iff.rfl
    simp only [resX, e0] at hr ⊢
    split at hr
    · rename_i b k n hvx
      rw [hvx] at a0
      have hb : g b = f b := a0.ref
      rw [hb, List.map_congr_left fun x hx => (ed b x hx).1]
      simp only [eo]
      obtain ⟨h1, hr⟩ := hr
      refine ⟨h1, ?_⟩
      split at hr
      · exact ⟨hr.1, hr.2.1, fun x hx => (ed b x hx).2.2 (hr.2.2.1 x hx), hr.2.2.2⟩
      · exact hr.elim
    · exact hr.elim
  | callN k x0 xs =>
    have e0 := hv x0 (by simp [opdsOf]); have a0 := ha x0 (by simp [opdsOf])
    have e : ∀ x ∈ xs, vd g x = vd f x := fun x hx => hv x (by simp [opdsOf, hx])
    simp only [resX, e0] at hr ⊢
    split at hr
    · rename_i b i o k n hvx
      rw [hvx] at a0
      have hb : g b = f b := a0.ref
      rw [hb, List.map_congr_left e]
      obtain ⟨h1, hr⟩ := hr
      refine ⟨h1, ?_⟩
      split at hr
      · obtain ⟨row0, h2, sz, es, h3, h4, h5, h6⟩ := hr
        exact ⟨row0, h2, sz, es, h3, h4, fun x hx => by rw [e x hx]; exact h5 x hx, h6⟩
      · exact hr.elim
    · exact hr.elim
  | callA k xs =>
    have e : ∀ x ∈ xs, vd g x = vd f x := fun x hx => hv x (by simp [opdsOf, hx])
    simp only [resX] at hr ⊢
    rw [List.map_congr_left e]
    exact ⟨fun x hx => by rw [e x hx]; exact hr.1 x hx, hr.2⟩
  | callL k x0 xs =>
    have e0 := hv x0 (by simp [opdsOf]); have a0 := ha x0 (by simp [opdsOf])
    have e : ∀ x ∈ xs, vd g x = vd f x := fun x hx => hv x (by simp [opdsOf, hx])
    simp only [resX, e0] at hr ⊢
    split at hr
    · rename_i b i o hvx
      rw [hvx] at a0
      have hb : g b = f b := a0.adr
      rw [hb, List.map_congr_left e]
      obtain ⟨h1, h2, hr⟩ := hr
      refine ⟨h1, h2, ?_⟩
      split at hr
      · exact ⟨hr.1, fun x hx => by rw [e x hx]; exact hr.2.1 x hx, hr.2.2⟩
      · exact hr.elim
    · exact hr.elim
  | clr zs x0 =>
    have e0 := hv x0 (by simp [opdsOf]); have a0 := ha x0 (by simp [opdsOf])
    simp only [resX, e0] at hr ⊢
    split at hr
    · exact hr
    · rename_i b k n hvx
      rw [hvx] at a0
      have hb : g b = f b := a0.ref
      rw [hb]
      exact hr
    · rename_i b i o k n hvx
      rw [hvx] at a0
      have hb : g b = f b := a0.ref
      rw [hb]
      exact hr
    · exact hr.elim
  | callE k x0 xs =>
    have e0 := hv x0 (by simp [opdsOf]); have a0 := ha x0 (by simp [opdsOf])
    have e : ∀ x ∈ xs, argV g x = argV f x ∧ ∀ b, argE g b x ↔ argE f b x := fun x hx => by
      have h1 := hv x (by simp [opdsOf, hx])
      have h2 := ha x (by simp [opdsOf, hx])
      unfold argV argE
      rw [h1]
      revert h2
      generalize vd f x = d
      intro h2
      cases d <;> first | exact ⟨rfl, fun _ => Iff.rfl⟩ | skip
      rename_i p k n
      cases p with
      | r c =>
        have hb : g c = f c := h2.ref
        exact ⟨by simp only [hb], fun _ => by simp only [hb]⟩
      | n c i o => exact ⟨rfl, fun _ => Iff.rfl⟩
    simp only [resX, e0] at hr ⊢
    split at hr
    · split at hr
      · rename_i p k n hvx
        rw [hvx] at a0
        have hb : g p.root = f p.root := a0.ref
        have hd : deadP g p = deadP f p := by
          cases p with
          | r c => rfl
          | n c i o => simp only [deadP]; rw [show g c = f c from hb]
        simp only [getP_local hb, hd]
        rw [List.map_congr_left fun x hx => (e x hx).1]
        split at hr
        · obtain ⟨h1, h2, h3, h4, h5, h6⟩ := hr
          exact ⟨h1, h2, h3, h4, fun x hx => ((e x hx).2 _).2 (h5 x hx), h6⟩
        · exact hr.elim
      · exact hr.elim
    · exact hr.elim
  | callv x0 xs =>
    have e0 := hv x0 (by simp [opdsOf]); have a0 := ha x0 (by simp [opdsOf])
    have e : ∀ x ∈ xs, dpv g x = dpv f x ∧ (dpOk g (vd g x) ↔ dpOk f (vd f x)) := fun x hx => by
      have := dp_local (ha x (by simp [opdsOf, hx]))
      unfold dpv
      rw [hv x (by simp [opdsOf, hx])]
      exact this
    simp only [resX, e0] at hr ⊢
    split at hr
    · obtain ⟨h0, d, h1, h2, h3⟩ := hr
      refine ⟨fun x hx => (e x hx).2.2 (h0 x hx), d, by rw [List.map_congr_left fun x hx => (e x hx).1]; exact h1, h2.imp id (fun h => ?_), h3⟩
      rw [List.all_eq_true] at h ⊢
      exact fun x hx => by rw [hv x (by simp [opdsOf, hx])]; exact h x hx
    · rename_i k cs ex
      rw [ex] at a0
      obtain ⟨h0, h0', d, h1, h2, h3⟩ := hr
      have ec : ∀ c ∈ cs, dp1 g c = dp1 f c ∧ (dpOk1 g c ↔ dpOk1 f c) := fun c hc => dp1_local fun b hb => a0 b (ment_part hc hb)
      exact ⟨fun x hx => (e x hx).2.2 (h0 x hx), fun c hc => (ec c hc).2.2 (h0' c hc), d, by rw [List.map_congr_left fun x hx => (e x hx).1, List.map_congr_left fun c hc => (ec c hc).1]; exact h1, h2, h3⟩
    · exact hr
  | _ => (simp only [resX] at hr ⊢; exact res_local hv ha hr)
end
end Go.Gv

namespace Go.Gv
open Go.RowKit
def mroots1 : D → List Nat
  | .ref p _ _ => [p.root]
  | .adr p _ _ => [p.root]
  | .mrf b => [b]
  | _ => []
def mroots : D → List Nat
  | .agx ds => ds.flatMap mroots1
  | .tpx ds => ds.flatMap mroots1
  | .ptx ds => ds.flatMap mroots1
  | .rfx _ _ ds => ds.flatMap mroots1
  | .fnx _ ds => ds.flatMap mroots1
  | d => mroots1 d
theorem mentP_eq {b : Nat} {all : Bool} {p : Pa} (h : mentP b all p = true) : b = p.root := by
  cases p <;> simp [mentP, Pa.root] at h ⊢ <;> simp_all
theorem ment1_roots {b : Nat} {all : Bool} {d : D} (h : ment1 b all d = true) : b ∈ mroots1 d := by
  cases d <;> simp only [ment1, Bool.false_eq_true] at h
  case ref p k n => simp [mroots1, mentP_eq h]
  case adr p i o => simp [mroots1, mentP_eq h]
  case mrf c => simp at h; simp [mroots1, h.2]
theorem ment_roots {b : Nat} {all : Bool} {d : D} (h : ment b all d = true) : b ∈ mroots d := by
  have part : ∀ ds : List D, ds.any (ment1 b all) = true → b ∈ ds.flatMap mroots1 := fun ds h => by
    obtain ⟨d, h1, h2⟩ := List.any_eq_true.1 h
    exact List.mem_flatMap.2 ⟨d, h1, ment1_roots h2⟩
  cases d
  case agx ds => exact part ds h
  case tpx ds => exact part ds h
  case ptx ds => exact part ds h
  case rfx n sz ds => exact part ds h
  case fnx g ds => exact part ds h
  all_goals (simp only [ment] at h; simp only [mroots]; exact ment1_roots h)
theorem mentL_any (ks : List (Nat × Bool)) : mentL ks .any = false := by
  simp [mentL, ment, ment1]
theorem mentL_some {ks : List (Nat × Bool)} {d : D} (h : mentL ks d = true) : ∃ k ∈ ks, ment k.1 k.2 d = true := by
  simpa [mentL] using h
theorem lookup_mem {ws : List (Nat × D)} {k : Nat} {d : D} (h : ws.lookup k = some d) : (k, d) ∈ ws := by
  induction ws with
  | nil => cases h
  | cons p ws ih =>
    obtain ⟨s, x⟩ := p
    rw [List.lookup_cons] at h
    cases e : k == s with
    | true => rw [e] at h; simp at e h; subst e; subst h; simp
    | false => rw [e] at h; simp [ih h]
theorem lookup_keys {ws : List (Nat × D)} {k : Nat} (h : ws.lookup k = none) : k ∉ ws.map (·.1) := by
  induction ws with
  | nil => simp
  | cons p ws ih =>
    obtain ⟨s, x⟩ := p
    rw [List.lookup_cons] at h
    cases e : k == s with
    | true => rw [e] at h; cases h
    | false => rw [e] at h; simp at e; simp only [List.map_cons, List.mem_cons, not_or]; exact ⟨e, ih h⟩
theorem lookup_not {ws : List (Nat × D)} {k : Nat} (h : k ∉ ws.map (·.1)) : ws.lookup k = none := by
  refine lookup_none fun d hd => h (List.mem_map.2 ⟨_, hd, rfl⟩)
structure Fam where
  n : Nat
  ws : Nat → List (Nat × D)
  ks : Nat → List (Nat × Bool)
  rd : Nat → List Nat
  mn : Nat → List Nat
  fr : Nat → List (Nat × Nat)
  bef : Nat → Nat → Bool
  f0 : Nat → D
def Fam.W (A : Fam) (i : Nat) : List Nat := (A.ws i).map (·.1)
def Fam.E (A : Fam) (i : Nat) : (Nat → D) → (Nat → D) := eff (A.ws i) (A.ks i)
def Fam.G (A : Fam) (l : Nat → Bool) : Nat → (Nat → D)
  | 0 => A.f0
  | m + 1 => if l m then A.E m (A.G l m) else A.G l m
def Fam.St (A : Fam) (m : Nat) : Nat → D := A.G (fun _ => true) m
def colV (m : Nat) : D → Option (List (Option D))
  | .blk _ es => some (es.map fun r => r[m]?)
  | _ => none
def Fam.Pres (A : Fam) (i k m : Nat) : Prop := colV m (A.St (i + 1) k) = colV m (A.St i k)
def Fam.Apart (A : Fam) (i j : Nat) : Prop := (∀ k ∈ A.W i, k ∉ A.rd j ∧ k ∉ A.W j ∧ ∀ m, (k, m) ∈ A.fr j → A.Pres i k m) ∧ ∀ k ∈ A.ks i, k.1 ∉ A.mn j
def Fam.Ind (A : Fam) (i j : Nat) : Prop := A.Apart i j ∧ A.Apart j i
structure Fam.Ok (A : Fam) : Prop where
  kills : ∀ i, i < A.n → ∀ k ∈ A.ks i, k.1 ∈ A.W i
  vals : ∀ i, i < A.n → ∀ p ∈ A.ws i, ∀ b all, ment b all p.2 = true → b ∈ A.mn i ∨ b ∈ A.W i
  closed : ∀ i, i < A.n → ∀ k ∈ A.rd i, ∀ b all, ment b all (A.St i k) = true → b ∈ A.mn i
  fine : ∀ i, i < A.n → ∀ p ∈ A.fr i, p.1 ∉ A.W i
  known : ∀ i, i < A.n → ∀ k ∈ A.rd i, A.St i k ≠ .any
  pairs : ∀ i j, i < j → j < A.n → A.bef j i = true ∨ A.Ind i j
section
variable {A : Fam}
theorem eff_some {ws : List (Nat × D)} {ks : List (Nat × Bool)} {f : Nat → D} {k : Nat} {d : D} (h : ws.lookup k = some d) : eff ws ks f k = d := eff_at h
theorem eff_none {ws : List (Nat × D)} {ks : List (Nat × Bool)} {f : Nat → D} {k : Nat} (h : ws.lookup k = none) : eff ws ks f k = if mentL ks (f k) then .any else f k := by
  unfold eff; rw [h]
theorem Fam.Ok.noKill (h : A.Ok) {i j : Nat} (hi : i < A.n) (hj : j < A.n) (hI : A.Apart j i) {p : Nat × D} (hp : p ∈ A.ws i) : mentL (A.ks j) p.2 = false := by
  cases hm : mentL (A.ks j) p.2 with
  | false => rfl
  | true =>
    obtain ⟨k, h1, h2⟩ := mentL_some hm
    have h3 := h.kills j hj k h1
    have h5 := (hI.1 _ h3).2.1
    have h4 := hI.2 k h1
    rcases h.vals i hi p hp _ _ h2 with h6 | h6
    · exact absurd h6 h4
    · exact absurd h6 h5
theorem Fam.Ok.comm (h : A.Ok) {i j : Nat} (hi : i < A.n) (hj : j < A.n) (hI : A.Ind i j) (f : Nat → D) : A.E i (A.E j f) = A.E j (A.E i f) := by
  funext k
  unfold Fam.E
  cases h1 : (A.ws i).lookup k with
  | some d =>
    have hk : k ∈ A.W i := List.mem_map.2 ⟨_, lookup_mem h1, rfl⟩
    have h2 : (A.ws j).lookup k = none := lookup_not (hI.1.1 k hk).2.1
    have h3 := h.noKill hi hj hI.2 (lookup_mem h1)
    rw [eff_some h1, eff_none h2, eff_some h1]
    simp only at h3
    rw [h3]; rfl
  | none =>
    cases h2 : (A.ws j).lookup k with
    | some d =>
      have h3 := h.noKill hj hi hI.1 (lookup_mem h2)
      rw [eff_none h1, eff_some h2, eff_some h2]
      simp only at h3
      rw [h3]; rfl
    | none =>
      rw [eff_none h1, eff_none h2, eff_none h2, eff_none h1]
      cases e1 : mentL (A.ks i) (f k) <;> cases e2 : mentL (A.ks j) (f k) <;> simp [e1, e2, mentL_any]
def Shut (A : Fam) (l : Nat → Bool) : Prop := ∀ j, j < A.n → l j = true → ∀ i, i < j → A.bef j i = true → l i = true
open Classical in
noncomputable def killU (A : Fam) (l : Nat → Bool) (m : Nat) (d : D) : D := if ∃ u, u < m ∧ l u = false ∧ mentL (A.ks u) d = true then .any else d
theorem killU_any (l : Nat → Bool) (m : Nat) : killU A l m .any = .any := by
  unfold killU; split <;> rfl
theorem part1 (h : A.Ok) {l : Nat → Bool} (hs : Shut A l) : ∀ m, m ≤ A.n → ∀ k, (∀ u, u < m → l u = false → k ∉ A.W u) → A.St m k = killU A l m (A.G l m k)
  | 0, _, k, _ => by
    unfold killU
    rw [if_neg (by rintro ⟨u, hu, _⟩; omega)]
    rfl
  | m + 1, hm, k, hk => by
    have ih := part1 h hs m (by omega) k (fun u hu => hk u (by omega))
    have e1 : A.St (m + 1) k = A.E m (A.St m) k := by simp [Fam.St, Fam.G]
    rw [e1]
    cases hl : l m with
    | true =>
      have e2 : A.G l (m + 1) k = A.E m (A.G l m) k := by simp [Fam.G, hl]
      rw [e2]
      unfold Fam.E
      cases h1 : (A.ws m).lookup k with
      | some d =>
        rw [eff_some h1, eff_some h1]
        unfold killU
        rw [if_neg]
        rintro ⟨u, hu, hlu, hmu⟩
        have hum : u < m := by
          rcases Nat.lt_or_ge u m with h | h
          · exact h
          · have : u = m := by omega
            subst this; rw [hl] at hlu; cases hlu
        rcases h.pairs u m hum (by omega) with h2 | h2
        · rw [hs m (by omega) hl u hum h2] at hlu; cases hlu
        · have := h.noKill (i := m) (j := u) (by omega) (by omega) h2.1 (lookup_mem h1)
          simp only at this
          rw [this] at hmu; cases hmu
      | none =>
        rw [eff_none h1, eff_none h1, ih]
        have same : ∀ d, killU A l (m + 1) d = killU A l m d := fun d => by
          unfold killU
          congr 1
          refine propext ⟨fun ⟨u, h3, h4, h5⟩ => ⟨u, ?_, h4, h5⟩, fun ⟨u, h3, h4, h5⟩ => ⟨u, by omega, h4, h5⟩⟩
          rcases Nat.lt_or_ge u m with h | h
          · exact h
          · have : u = m := by omega
            subst this; rw [hl] at h4; cases h4
        rw [same]
        generalize A.G l m k = g
        by_cases hc : ∃ u, u < m ∧ l u = false ∧ mentL (A.ks u) g = true
        · have e3 : killU A l m g = .any := by unfold killU; rw [if_pos hc]
          rw [e3, mentL_any]
          cases hg : mentL (A.ks m) g with
          | true => simp only [if_true]; rw [killU_any]; rfl
          | false => simp only [Bool.false_eq_true, if_false]; rw [e3]
        · have e3 : killU A l m g = g := by unfold killU; rw [if_neg hc]
          rw [e3]
          cases hg : mentL (A.ks m) g with
          | true => simp only [if_true]; rw [killU_any]
          | false => simp only [Bool.false_eq_true, if_false]; rw [e3]
    | false =>
      have e2 : A.G l (m + 1) k = A.G l m k := by simp [Fam.G, hl]
      rw [e2]
      unfold Fam.E
      rw [eff_none (lookup_not (hk m (by omega) hl)), ih]
      generalize A.G l m k = g
      by_cases hc : ∃ u, u < m ∧ l u = false ∧ mentL (A.ks u) g = true
      · have e3 : killU A l m g = .any := by unfold killU; rw [if_pos hc]
        have e4 : killU A l (m + 1) g = .any := by
          unfold killU
          obtain ⟨u, h1, h2⟩ := hc
          rw [if_pos ⟨u, by omega, h2⟩]
        rw [e3, e4, mentL_any]; rfl
      · have e3 : killU A l m g = g := by unfold killU; rw [if_neg hc]
        rw [e3]
        cases hg : mentL (A.ks m) g with
        | true =>
          have e4 : killU A l (m + 1) g = .any := by unfold killU; exact if_pos ⟨m, by omega, hl, hg⟩
          rw [e4]; rfl
        | false =>
          have e4 : killU A l (m + 1) g = g := by
            unfold killU
            refine if_neg ?_
            rintro ⟨u, h1, h2, h3⟩
            rcases Nat.lt_or_ge u m with h | h
            · exact hc ⟨u, h, h2, h3⟩
            · have : u = m := by omega
              subst this; rw [hg] at h3; cases h3
          rw [e4]; rfl
theorem Fam.Ok.reads (h : A.Ok) {l : Nat → Bool} (hs : Shut A l) {j : Nat} (hj : j < A.n) (hlj : l j = false) (hb : ∀ i, i < j → A.bef j i = true → l i = true) : ∀ k ∈ A.rd j, A.G l A.n k = A.St j k := by
  intro k hk
  have h1 : A.G l j k = A.St j k := by
    have h2 := part1 h hs j (by omega) k (fun u hu hlu => by
      rcases h.pairs u j hu hj with h3 | h3
      · rw [hb u hu h3] at hlu; cases hlu
      · exact fun h4 => (h3.1.1 k h4).1 hk)
    have h3 := h.known j hj k hk
    rw [h2] at h3 ⊢
    unfold killU at h3 ⊢
    split at h3
    · exact absurd rfl h3
    · rename_i hc; rw [if_neg hc]
  have h2 : ∀ m, j ≤ m → m ≤ A.n → A.G l m k = A.St j k := by
    intro m
    induction m with
    | zero => intro h3 _; have : j = 0 := by omega
              subst this; exact h1
    | succ m ih =>
      intro h3 h4
      rcases Nat.lt_or_ge m j with h5 | h5
      · have : j = m + 1 := by omega
        rw [← this]; exact h1
      · have ihm := ih h5 (by omega)
        cases hl : l m with
        | false => simp [Fam.G, hl, ihm]
        | true =>
          have hjm : j < m := by
            rcases Nat.lt_or_ge j m with h | h
            · exact h
            · have : j = m := by omega
              subst this; rw [hl] at hlj; cases hlj
          rcases h.pairs j m hjm (by omega) with h6 | h6
          · rw [hs m (by omega) hl j hjm h6] at hlj; cases hlj
          · have h7 : (A.ws m).lookup k = none := lookup_not (fun h8 => (h6.2.1 k h8).1 hk)
            have h8 : mentL (A.ks m) (A.St j k) = false := by
              cases hm : mentL (A.ks m) (A.St j k) with
              | false => rfl
              | true =>
                obtain ⟨q, h9, h10⟩ := mentL_some hm
                exact absurd (h.closed j hj k hk _ _ h10) (h6.2.2 q h9)
            simp only [Fam.G, hl, if_true, Fam.E]
            rw [eff_none h7, ihm, h8]; rfl
  exact h2 A.n (by omega) (Nat.le_refl _)
theorem colV_kill (m : Nat) (ks : List (Nat × Bool)) (d : D) : colV m (if mentL ks d then .any else d) = colV m d := by
  cases d
  case blk sz es => rw [mentL_isB rfl]; rfl
  all_goals (split <;> rfl)
theorem colV_step (A : Fam) (f g : Nat → D) (i k m : Nat) (h : k ∉ A.W i) : colV m (A.E i f k) = colV m (f k) := by
  unfold Fam.E
  rw [eff_none (lookup_not h), colV_kill]
theorem colV_same (A : Fam) (f g : Nat → D) (i k : Nat) (h : k ∈ A.W i) : A.E i f k = A.E i g k := by
  unfold Fam.E
  cases h1 : (A.ws i).lookup k with
  | none => exact absurd h (lookup_keys h1)
  | some d => rw [eff_some h1, eff_some h1]
theorem St_succ (A : Fam) (m : Nat) : A.St (m + 1) = A.E m (A.St m) := by simp [Fam.St, Fam.G]
theorem Fam.Ok.readsC (h : A.Ok) {l : Nat → Bool} (hs : Shut A l) {j : Nat} (hj : j < A.n) (hlj : l j = false) (hb : ∀ i, i < j → A.bef j i = true → l i = true) : ∀ p ∈ A.fr j, colV p.2 (A.G l A.n p.1) = colV p.2 (A.St j p.1) := by
  rintro ⟨k, c⟩ hk
  simp only
  have hkj := h.fine j hj _ hk
  simp only at hkj
  have low : ∀ m, m ≤ j → colV c (A.G l m k) = colV c (A.St m k) := by
    intro m
    induction m with
    | zero => intro _; rfl
    | succ m ih =>
      intro hm
      have ihm := ih (by omega)
      rw [St_succ]
      by_cases hw : k ∈ A.W m
      · cases hl : l m with
        | true =>
          simp only [Fam.G, hl, if_true]
          rw [colV_same A _ (A.St m) m k hw]
        | false =>
          simp only [Fam.G, hl, Bool.false_eq_true, if_false]
          rcases h.pairs m j (by omega) hj with h1 | h1
          · rw [hb m (by omega) h1] at hl; cases hl
          · have h2 := (h1.1.1 k hw).2.2 c hk
            unfold Fam.Pres at h2
            rw [St_succ] at h2
            rw [h2, ihm]
      · rw [colV_step A _ (A.St m) m k c hw]
        cases hl : l m with
        | true =>
          simp only [Fam.G, hl, if_true]
          rw [colV_step A _ (A.St m) m k c hw, ihm]
        | false => simp only [Fam.G, hl, Bool.false_eq_true, if_false]; exact ihm
  have run : ∀ m, j ≤ m → m ≤ A.n → (∀ u, j < u → u < m → k ∈ A.W u → A.Pres u k c) → colV c (A.St m k) = colV c (A.St j k) := by
    intro m
    induction m with
    | zero => intro h1 _ _; have : j = 0 := by omega
              subst this; rfl
    | succ m ih =>
      intro h1 h2 h3
      rcases Nat.lt_or_ge m j with h4 | h4
      · have : j = m + 1 := by omega
        rw [← this]
      · have ihm := ih h4 (by omega) (fun u h5 h6 h7 => h3 u h5 (by omega) h7)
        by_cases hw : k ∈ A.W m
        · have hjm : j < m := by
            rcases Nat.lt_or_ge j m with h | h
            · exact h
            · have : j = m := by omega
              subst this; exact absurd hw hkj
          have := h3 m hjm (by omega) hw
          unfold Fam.Pres at this
          rw [this, ihm]
        · rw [St_succ, colV_step A _ (A.St m) m k c hw, ihm]
  have high : ∀ m, j ≤ m → m ≤ A.n → colV c (A.G l m k) = colV c (A.St j k) := by
    intro m
    induction m with
    | zero => intro h1 _; have : j = 0 := by omega
              subst this; exact low 0 (Nat.le_refl _)
    | succ m ih =>
      intro h1 h2
      rcases Nat.lt_or_ge m j with h4 | h4
      · have : j = m + 1 := by omega
        rw [← this]; exact low j (Nat.le_refl _)
      · have ihm := ih h4 (by omega)
        cases hl : l m with
        | false => simp only [Fam.G, hl, Bool.false_eq_true, if_false]; exact ihm
        | true =>
          simp only [Fam.G, hl, if_true]
          by_cases hw : k ∈ A.W m
          · have hjm : j < m := by
              rcases Nat.lt_or_ge j m with h | h
              · exact h
              · have : j = m := by omega
                subst this; rw [hl] at hlj; cases hlj
            have pres : ∀ u, j < u → u < A.n → k ∈ A.W u → l u = true → A.Pres u k c := fun u h5 h6 h7 h8 => by
              rcases h.pairs j u h5 h6 with h9 | h9
              · rw [hs u h6 h8 j h5 h9] at hlj; cases hlj
              · exact (h9.2.1 k h7).2.2 c hk
            have h5 := run m h4 (by omega) (fun u h5 h6 h7 => pres u h5 (by omega) h7 (by
              rcases h.pairs u m h6 (by omega) with h9 | h9
              · exact hs m (by omega) hl u h6 h9
              · exact absurd hw (h9.1.1 k h7).2.1))
            have h6 := pres m hjm (by omega) hw hl
            unfold Fam.Pres at h6
            rw [colV_same A _ (A.St m) m k hw, ← St_succ, h6, h5]
          · rw [colV_step A _ (A.St m) m k c hw, ihm]
  exact high A.n (by omega) (Nat.le_refl _)
theorem Fam.Ok.more (h : A.Ok) {l l' : Nat → Bool} (hs : Shut A l) {j : Nat} (hj : j < A.n) (hlj : l j = false) (hj' : l' j = true) (hl' : ∀ i, i ≠ j → l' i = l i) : A.G l' A.n = A.E j (A.G l A.n) := by
  have low : ∀ m, m ≤ j → A.G l' m = A.G l m := by
    intro m
    induction m with
    | zero => intro _; rfl
    | succ m ih =>
      intro hm
      simp only [Fam.G]
      rw [ih (by omega), hl' m (by omega)]
  have high : ∀ m, j < m → m ≤ A.n → A.G l' m = A.E j (A.G l m) := by
    intro m
    induction m with
    | zero => intro h1; omega
    | succ m ih =>
      intro h1 h2
      rcases Nat.lt_or_ge j m with h3 | h3
      · have ihm := ih h3 (by omega)
        simp only [Fam.G]
        rw [hl' m (by omega), ihm]
        cases hl : l m with
        | false => rfl
        | true =>
          simp only [if_true]
          rcases h.pairs j m h3 (by omega) with h4 | h4
          · rw [hs m (by omega) hl j h3 h4] at hlj; cases hlj
          · exact (h.comm hj (by omega) h4 _).symm
      · have : m = j := by omega
        subst this
        simp only [Fam.G]
        rw [hj', hlj, low m (Nat.le_refl _)]
        rfl
  exact high A.n hj (Nat.le_refl _)
end
end Go.Gv

namespace Go.Gv
open Go.RowKit
def opdSlots : Opd → List Nat
  | .t s => [s]
  | .c _ => []
def gSlot : Option (Nat × Bool) → List Nat
  | some (s, _) => [s]
  | none => []
def rdS (n : NOper) : List Nat := (opdsOf n.op).flatMap opdSlots ++ gSlot n.guard
def opsN : NOp → List Opd
  | .mov _ => []
  | .nck _ => []
  | .pick _ _ _ => []
  | .bin _ _ _ => []
  | .un _ _ => []
  | .conv _ _ => []
  | .fld _ _ _ _ => []
  | .ext _ _ => []
  | .fad _ _ => []
  | .ld _ _ _ => []
  | .ldQ _ _ => []
  | .mk _ _ => []
  | .bld _ _ => []
  | .boxF _ => []
  | .blsF _ _ _ _ => []
  | .blsX _ _ _ _ => []
  | .len _ => []
  | .iadA _ _ _ _ => []
  | o => opdsOf o
def ldN : NOp → List Opd
  | .ld _ _ x => [x]
  | _ => []
def rdR (f : Nat → D) (n : NOper) : List Nat := ((opsN n.op).flatMap fun x => mroots (vd f x)) ++ ((ldN n.op).flatMap fun x => mroots1 (vd f x))
def mnR (f : Nat → D) (n : NOper) : List Nat := (opdsOf n.op).flatMap fun x => mroots (vd f x)
def frR (f : Nat → D) (n : NOper) : List (Nat × Nat) := match n.op with
  | .ldQ o x => match vd f x with
    | .adr (.r c) _ _ => [(c, o)]
    | _ => []
  | _ => []
def fwR (f : Nat → D) (n : NOper) : List (Nat × Nat) := match n.op with
  | .appQ o _ _ x _ => match vd f x with
    | .ref (.n c _ _) _ _ => [(c, o)]
    | _ => []
  | _ => []
abbrev Rds := List Nat × List Nat × List (Nat × Nat) × List (Nat × Nat)
def enc4 (x : Rds) : List Nat := x.1.map (4 * ·) ++ x.2.1.map (4 * · + 1) ++ x.2.2.1.map (fun p => 4 * (64 * p.1 + p.2 % 64) + 2) ++ x.2.2.2.map (fun p => 4 * (64 * p.1 + p.2 % 64) + 3)
def rdN (f : Nat → D) (n : NOper) : Rds := (rdS n ++ rdR f n, mnR f n, frR f n, fwR f n)
def encR (f : Nat → D) (n : NOper) : List Nat := enc4 (rdN f n)
def wrK (ws : List (Nat × D)) (ks : List (Nat × Bool)) : List Nat := (ws.map fun p => 4 * p.1) ++ ks.map fun k => 4 * k.1 + 1
def isAny : D → Bool
  | .any => true
  | _ => false
def chk (f : Nat → D) (n : NOper) : Bool := ((rdS n).all fun s => !isAny (f s)) && ((rdR f n).all fun b => isB (f b)) && ((frR f n).all fun p => !(n.dst == some p.1)) && (fwR f n).all fun p => !(n.dst == some p.1)
def wOk (R : List Nat) (ws : List (Nat × D)) (ks : List (Nat × Bool)) : Bool :=
  (ks.all fun k => (ws.map (·.1)).contains k.1) && ws.all fun p => (mroots p.2).all fun b => R.contains (4 * b + 1) || (ws.map (·.1)).contains b
def colOk (q : Nat) (r0 : List Nat) : Bool := r0.any fun z => decide (z % 4 = 3) && decide (z / 256 = q / 256) && !decide (z / 4 % 64 = q / 4 % 64)
def apartL (x r0 : List Nat) (r w : List Nat) : Bool := x.all fun k => !r.contains k && !w.contains k && r.all fun q => !(decide (q % 4 = 2) && decide (k = 4 * (q / 256))) || colOk q r0
def indOk (hs : List Nat) (rw : List (List Nat × List Nat)) : Bool :=
  rw.zipIdx.all fun p => rw.zipIdx.all fun q => !decide (p.2 < q.2) || (hs.getD q.2 0).testBit p.2 || (apartL p.1.2 p.1.1 q.1.1 q.1.2 && apartL q.1.2 q.1.1 p.1.1 p.1.2)
def dstL : Option Nat → List Nat
  | some t => [4 * t]
  | none => []
def wpNd (C : Nat → List D → D → List D → Prop) (hs : List Nat) (K : Env → Prop) : List NOper → Env → List (List Nat × List Nat) → Prop
  | [], e, acc => indOk hs acc.reverse = true ∧ K e
  | o :: os, e, acc => chk (look e) o = true ∧ match o.guard with
    | none => resX C (look e) o.dst (fun ws ks => wOk (encR (look e) o) ws ks = true ∧ wpNd C hs K os (ws ++ killE ks e) ((encR (look e) o, wrK ws ks) :: acc)) o.op
    | some (s, want) => match look e s with
      | .bool b => (b = want → resX C (look e) o.dst (fun ws ks => wOk (encR (look e) o) ws ks = true ∧ wpNd C hs K os (ws ++ killE ks e) ((encR (look e) o, wrK ws ks) :: acc)) o.op) ∧
          (b = !want → skipE e o.dst fun e' => wpNd C hs K os e' ((encR (look e) o, dstL o.dst) :: acc))
      | .tup [] => skipE e o.dst fun e' => wpNd C hs K os e' ((encR (look e) o, dstL o.dst) :: acc)
      | _ => False
def wsOf (n : NOper) : Option (List (Nat × D) × List (Nat × Bool)) → List (Nat × D)
  | some (ws, _) => ws
  | none => match n.dst with
    | some t => [(t, .tup [])]
    | none => []
def ksOf : Option (List (Nat × D) × List (Nat × Bool)) → List (Nat × Bool)
  | some (_, ks) => ks
  | none => []
theorem effX_eq (n : NOper) (x : Option (List (Nat × D) × List (Nat × Bool))) (f : Nat → D) : effX n x f = eff (wsOf n x) (ksOf x) f := by
  cases x with
  | some y => rfl
  | none =>
    unfold effX wsOf ksOf
    cases n.dst with
    | some t => rfl
    | none => exact (eff_nil f).symm
abbrev TStep := NOper × Option (List (Nat × D) × List (Nat × Bool)) × Rds
def Tr (C : Nat → List D → D → List D → Prop) : List TStep → (Nat → D) → (Nat → D) → Prop
  | [], f, f' => f' = f
  | (n, x, rd) :: ts, f, f' => StepX C n f x ∧ chk f n = true ∧ wOk (encR f n) (wsOf n x) (ksOf x) = true ∧ rd = rdN f n ∧ Tr C ts (eff (wsOf n x) (ksOf x) f) f'
section
variable {C : Nat → List D → D → List D → Prop}
theorem tr_of {hs : List Nat} {K : Env → Prop} : ∀ (ns : List NOper) (e : Env) (acc : List (List Nat × List Nat)), wpNd C hs K ns e acc → ∃ (ts : List TStep) (e' : Env), ts.map (·.1) = ns ∧ Tr C ts (look e) (look e') ∧ indOk hs (acc.reverse ++ ts.map fun t => (enc4 t.2.2, wrK (wsOf t.1 t.2.1) (ksOf t.2.1))) = true ∧ K e'
  | [], e, acc, h => ⟨[], e, rfl, rfl, by simpa using h.1, h.2⟩
  | n :: ns, e, acc, h => by
    obtain ⟨h0, h⟩ := h
    have fin : ∀ (x : Option (List (Nat × D) × List (Nat × Bool))) (e1 : Env), StepX C n (look e) x → wOk (encR (look e) n) (wsOf n x) (ksOf x) = true → look e1 = eff (wsOf n x) (ksOf x) (look e) → wpNd C hs K ns e1 ((encR (look e) n, wrK (wsOf n x) (ksOf x)) :: acc) →
        ∃ (ts : List TStep) (e' : Env), ts.map (·.1) = n :: ns ∧ Tr C ts (look e) (look e') ∧ indOk hs (acc.reverse ++ ts.map fun t => (enc4 t.2.2, wrK (wsOf t.1 t.2.1) (ksOf t.2.1))) = true ∧ K e' := by
      intro x e1 h1 h2 h3 h4
      obtain ⟨ts, e', g1, g2, g3, g4⟩ := tr_of ns e1 _ h4
      refine ⟨(n, x, rdN (look e) n) :: ts, e', by simp [g1], ⟨h1, h0, h2, rfl, by rw [← h3]; exact g2⟩, ?_, g4⟩
      simpa [encR] using g3
    have run : (∀ s b, n.guard = some (s, b) → look e s = .bool b) → resX C (look e) n.dst (fun ws ks => wOk (encR (look e) n) ws ks = true ∧ wpNd C hs K ns (ws ++ killE ks e) ((encR (look e) n, wrK ws ks) :: acc)) n.op →
        ∃ (ts : List TStep) (e' : Env), ts.map (·.1) = n :: ns ∧ Tr C ts (look e) (look e') ∧ indOk hs (acc.reverse ++ ts.map fun t => (enc4 t.2.2, wrK (wsOf t.1 t.2.1) (ksOf t.2.1))) = true ∧ K e' := by
      intro hg h1
      obtain ⟨ws, ks, ⟨h2, h3⟩, h4⟩ := resX_one h1
      exact fin (some (ws, ks)) _ ⟨hg, h4 _ ⟨rfl, rfl⟩⟩ h2 (look_eff ws ks e) h3
    have skp : ∀ s want, n.guard = some (s, want) → Skp want (look e s) → skipE e n.dst (fun e' => wpNd C hs K ns e' ((encR (look e) n, dstL n.dst) :: acc)) →
        ∃ (ts : List TStep) (e' : Env), ts.map (·.1) = n :: ns ∧ Tr C ts (look e) (look e') ∧ indOk hs (acc.reverse ++ ts.map fun t => (enc4 t.2.2, wrK (wsOf t.1 t.2.1) (ksOf t.2.1))) = true ∧ K e' := by
      intro s want hg hb h1
      unfold skipE at h1
      split at h1
      · rename_i hd
        refine fin none e ⟨s, want, hg, hb⟩ (by simp [wOk, wsOf, ksOf, hd]) (by simp [wsOf, ksOf, hd, eff_nil]) ?_
        simpa [wsOf, ksOf, wrK, hd, dstL] using h1
      · rename_i t hd
        refine fin none ((t, .tup []) :: e) ⟨s, want, hg, hb⟩ (by simp [wOk, wsOf, ksOf, hd, mroots, mroots1]) ?_ ?_
        · have := look_eff [(t, .tup [])] [] e
          simp only [killE, if_true] at this
          simpa [wsOf, ksOf, hd] using this
        · simpa [wsOf, ksOf, wrK, hd, dstL] using h1
    split at h
    · rename_i hg
      exact run (fun s b e' => (by rw [hg] at e'; cases e')) h
    · rename_i s want hg
      split at h
      · rename_i b hb
        by_cases hbw : b = want
        · subst hbw
          exact run (fun s' b' e' => (by rw [hg] at e'; cases e'; exact hb)) (h.1 rfl)
        · have hb' : b = !want := by cases b <;> cases want <;> simp_all
          have h1 := h.2 hb'
          rw [hb'] at hb
          exact skp s want hg (.inl hb) h1
      · rename_i hb
        exact skp s want hg (.inr hb) h
      · exact h.elim
def famOf (hs : List Nat) (ts : List TStep) (f : Nat → D) : Fam where
  n := ts.length
  ws i := match ts[i]? with
    | some t => wsOf t.1 t.2.1
    | none => []
  ks i := match ts[i]? with
    | some t => ksOf t.2.1
    | none => []
  rd i := match ts[i]? with
    | some t => t.2.2.1
    | none => []
  mn i := match ts[i]? with
    | some t => t.2.2.2.1
    | none => []
  fr i := match ts[i]? with
    | some t => t.2.2.2.2.1
    | none => []
  bef j i := (hs.getD j 0).testBit i
  f0 := f
theorem fam_shift (hs : List Nat) (t : TStep) (ts : List TStep) (f : Nat → D) : ∀ i, (famOf hs (t :: ts) f).St (i + 1) = (famOf hs ts (eff (wsOf t.1 t.2.1) (ksOf t.2.1) f)).St i
  | 0 => by simp [Fam.St, Fam.G, Fam.E, famOf]
  | i + 1 => by
    have ih := fam_shift hs t ts f i
    have e1 : ∀ (A : Fam) (m : Nat), A.St (m + 1) = A.E m (A.St m) := fun A m => by simp [Fam.St, Fam.G]
    rw [e1, ih, e1]
    simp [Fam.E, famOf]
theorem tr_spec (hs : List Nat) : ∀ (ts : List TStep) (f f' : Nat → D), Tr C ts f f' → f' = (famOf hs ts f).St ts.length ∧ ∀ (i : Nat) (t : TStep), ts[i]? = some t → StepX C t.1 ((famOf hs ts f).St i) t.2.1 ∧ chk ((famOf hs ts f).St i) t.1 = true ∧ wOk (enc4 t.2.2) (wsOf t.1 t.2.1) (ksOf t.2.1) = true ∧ t.2.2 = rdN ((famOf hs ts f).St i) t.1
  | [], f, f', h => ⟨h, fun i t h => by simp at h⟩
  | (n, x, rd) :: ts, f, f', h => by
    obtain ⟨h1, h2, h3, rfl, h4⟩ := h
    obtain ⟨g1, g2⟩ := tr_spec hs ts _ f' h4
    refine ⟨by rw [List.length_cons, fam_shift]; exact g1, fun i t hi => ?_⟩
    cases i with
    | zero => simp at hi; subst hi; exact ⟨h1, h2, by simpa [encR] using h3, rfl⟩
    | succ i => rw [fam_shift]; exact g2 i t (by simpa using hi)
theorem ws_dst {f : Nat → D} {n : NOper} {x : Option (List (Nat × D) × List (Nat × Bool))} {c : Nat} (h2 : (n.dst == some c) = false) (hx : x = none ∨ ∃ d ks, x = some ((match n.dst with | some t => [(t, d)] | none => []), ks)) : c ∉ (wsOf n x).map (·.1) := by
  have h3 : n.dst ≠ some c := by simpa using h2
  rcases hx with rfl | ⟨d, ks, rfl⟩
  · simp only [wsOf]
    split
    · rename_i t e
      rw [e] at h3
      simp only [List.map_cons, List.map_nil, List.mem_cons, List.not_mem_nil, or_false]
      exact fun e => h3 (by rw [e])
    · simp
  · simp only [wsOf]
    split
    · rename_i t e
      rw [e] at h3
      simp only [List.map_cons, List.map_nil, List.mem_cons, List.not_mem_nil, or_false]
      exact fun e => h3 (by rw [e])
    · simp
theorem fine_w {f : Nat → D} {n : NOper} {x : Option (List (Nat × D) × List (Nat × Bool))} (h : StepX C n f x) (h2 : chk f n = true) {p : Nat × Nat} (hp : p ∈ frR f n) : p.1 ∉ (wsOf n x).map (·.1) := by
  have h3 : (n.dst == some p.1) = false := by
    simp only [chk, Bool.and_eq_true, List.all_eq_true] at h2
    simpa using h2.1.2 p hp
  refine ws_dst (f := f) h3 ?_
  cases x with
  | none => exact .inl rfl
  | some y =>
    obtain ⟨ws, ks⟩ := y
    right
    have h := h.2
    unfold frR at hp
    split at hp
    · rename_i q x0 heq
      rw [heq] at h
      simp only [resX] at h
      split at h
      · obtain ⟨_, h⟩ := h
        split at h
        · obtain ⟨r, _, d, _, h⟩ := h
          unfold dstK at h
          split at h
          · rename_i t e
            obtain ⟨rfl, rfl⟩ := h
            exact ⟨_, _, by rw [e]⟩
          · rename_i e
            obtain ⟨rfl, rfl⟩ := h
            exact ⟨.any, _, by rw [e]⟩
        · exact h.elim
      · exact h.elim
    · cases hp
theorem colV_setC {es : List (List D)} {sz i o m : Nat} {row : List D} (h : es[i]? = some row) (ho : o < row.length) (hm : o ≠ m) : colV m (.blk sz (setC es i o 1 [.any])) = colV m (.blk sz es) := by
  simp only [colV, setC, h, Option.getD_some, Option.some.injEq]
  apply List.ext_getElem?
  intro j
  rw [List.getElem?_map, List.getElem?_map, List.getElem?_set]
  split
  · rename_i e
    subst e
    split
    · rw [h]
      simp only [Option.map_some, Option.some.injEq]
      have hl : (row.take o).length = o := by simp; omega
      rw [List.append_assoc]
      by_cases h1 : m < o
      · rw [List.getElem?_append_left (by omega), List.getElem?_take_of_lt h1]
      · rw [List.getElem?_append_right (by omega), hl, List.getElem?_append_right (by simp; omega), List.getElem?_drop]
        congr 1; simp only [List.length_cons, List.length_nil]; omega
    · rename_i h1
      rw [List.getElem?_eq_none (by omega)]
  · rfl
theorem fine_p {f : Nat → D} {n : NOper} {x : Option (List (Nat × D) × List (Nat × Bool))} (h : StepX C n f x) (h2 : chk f n = true) {p : Nat × Nat} (hp : p ∈ fwR f n) {m : Nat} (hm : p.2 ≠ m) : colV m (eff (wsOf n x) (ksOf x) f p.1) = colV m (f p.1) := by
  have h3 : (n.dst == some p.1) = false := by
    simp only [chk, Bool.and_eq_true, List.all_eq_true] at h2
    simpa using h2.2 p hp
  cases x with
  | none =>
    rw [eff_none (lookup_not (ws_dst (f := f) h3 (.inl rfl)))]
    exact colV_kill _ _ _
  | some y =>
    obtain ⟨ws, ks⟩ := y
    have h := h.2
    have h30 : n.dst ≠ some p.1 := by simpa using h3
    unfold fwR at hp
    split at hp
    · rename_i q sz by_ x0 y0 heq
      rw [heq] at h
      simp only [resX] at h
      split at h
      · rename_i t hd
        split at h
        · rename_i c i o' k n' ex
          rw [ex] at hp
          simp only [List.mem_cons, List.not_mem_nil, or_false] at hp
          subst hp
          simp only at hm h30 ⊢
          obtain ⟨rfl, h⟩ := h
          obtain ⟨rows, bs, ⟨h4, h5, h⟩, _⟩ := rowsW_one h
          split at h
          · rename_i sz0 es0 hf
            obtain ⟨row0, h6, es, h7, h8, h9, h10, h11⟩ := h
            subst h10 h11
            have e1 : (c == t) = false := by simp only [beq_eq_false_iff_ne, ne_eq]; exact fun e => h30 (by rw [hd, e])
            have e2 : (c == rt t 0) = false := by simpa using h5
            simp only [wsOf]
            rw [eff_at (d := .blk sz0 (setC es0 i o' 1 [.any])) (by simp [List.lookup_cons, e1, e2]), hf]
            exact colV_setC h6 (List.getElem?_eq_some_iff.1 h7).1 hm
          · exact h.elim
        · exact h.elim
      · exact h.elim
    · cases hp
theorem fam_ok {hs : List Nat} {ts : List TStep} {f f' : Nat → D} (h : Tr C ts f f') (hi : indOk hs (ts.map fun t => (enc4 t.2.2, wrK (wsOf t.1 t.2.1) (ksOf t.2.1))) = true) : (famOf hs ts f).Ok := by
  obtain ⟨_, hs'⟩ := tr_spec hs ts f f' h
  have get : ∀ i, i < ts.length → ∃ t, ts[i]? = some t := fun i hi => ⟨_, List.getElem?_eq_getElem hi⟩
  have e4 : ∀ {x : Rds} {z : Nat}, z ∈ enc4 x → (∃ k ∈ x.1, z = 4 * k) ∨ (∃ k ∈ x.2.1, z = 4 * k + 1) ∨ (∃ p ∈ x.2.2.1, z = 4 * (64 * p.1 + p.2 % 64) + 2) ∨ ∃ p ∈ x.2.2.2, z = 4 * (64 * p.1 + p.2 % 64) + 3 := by
    intro x z hz
    simp only [enc4, List.mem_append, List.mem_map] at hz
    rcases hz with ((⟨k, h1, h2⟩ | ⟨k, h1, h2⟩) | ⟨p, h1, h2⟩) | ⟨p, h1, h2⟩
    · exact .inl ⟨k, h1, h2.symm⟩
    · exact .inr (.inl ⟨k, h1, h2.symm⟩)
    · exact .inr (.inr (.inl ⟨p, h1, h2.symm⟩))
    · exact .inr (.inr (.inr ⟨p, h1, h2.symm⟩))
  have e1 : ∀ {x : Rds} {k : Nat}, k ∈ x.1 → 4 * k ∈ enc4 x := fun {x k} hk => by
    simp only [enc4, List.mem_append, List.mem_map]; exact .inl (.inl (.inl ⟨k, hk, rfl⟩))
  have e2 : ∀ {x : Rds} {k : Nat}, k ∈ x.2.1 → 4 * k + 1 ∈ enc4 x := fun {x k} hk => by
    simp only [enc4, List.mem_append, List.mem_map]; exact .inl (.inl (.inr ⟨k, hk, rfl⟩))
  have e3 : ∀ {x : Rds} {p : Nat × Nat}, p ∈ x.2.2.1 → 4 * (64 * p.1 + p.2 % 64) + 2 ∈ enc4 x := fun {x p} hk => by
    simp only [enc4, List.mem_append, List.mem_map]; exact .inl (.inr ⟨p, hk, rfl⟩)
  refine ⟨fun i hn k hk => ?_, fun i hn p hp b all hb => ?_, fun i hn k hk b all hb => ?_, fun i hn p hp hk => ?_, fun i hn k hk => ?_, fun i j hij hn => ?_⟩
  · obtain ⟨t, ht⟩ := get i hn
    obtain ⟨_, _, h3, _⟩ := hs' i t ht
    simp only [famOf, ht] at hk
    simp only [Fam.W, famOf, ht]
    simp only [wOk, Bool.and_eq_true, List.all_eq_true] at h3
    exact List.contains_iff_mem.1 (h3.1 k hk)
  · obtain ⟨t, ht⟩ := get i hn
    obtain ⟨_, _, h3, _⟩ := hs' i t ht
    simp only [famOf, ht] at hp
    simp only [Fam.W, famOf, ht]
    simp only [wOk, Bool.and_eq_true, List.all_eq_true, Bool.or_eq_true] at h3
    rcases h3.2 p hp b (ment_roots hb) with h4 | h4
    · left
      have h5 := List.contains_iff_mem.1 h4
      rcases e4 h5 with ⟨x, _, h6⟩ | ⟨x, h7, h6⟩ | ⟨x, _, h6⟩ | ⟨x, _, h6⟩
      · omega
      · have : x = b := by omega
        subst this; exact h7
      · omega
      · omega
    · exact .inr (List.contains_iff_mem.1 h4)
  · obtain ⟨t, ht⟩ := get i hn
    obtain ⟨h1, h2, _, h4⟩ := hs' i t ht
    simp only [famOf, ht] at hk ⊢
    rw [h4] at hk ⊢
    simp only [chk, Bool.and_eq_true, List.all_eq_true] at h2
    rcases List.mem_append.1 hk with h5 | h5
    · simp only [rdS] at h5
      rcases List.mem_append.1 h5 with h6 | h6
      · obtain ⟨x, h7, h8⟩ := List.mem_flatMap.1 h6
        cases x with
        | t s =>
          simp only [opdSlots, List.mem_singleton] at h8
          subst h8
          refine List.mem_flatMap.2 ⟨_, h7, ?_⟩
          exact ment_roots hb
        | c d => simp [opdSlots] at h8
      · -- the guard's slot
        have : (∃ bb, (famOf hs ts f).St i k = .bool bb) ∨ (famOf hs ts f).St i k = .tup [] := by
          cases hg : t.1.guard with
          | none => rw [hg] at h6; simp [gSlot] at h6
          | some q =>
            obtain ⟨s, want⟩ := q
            rw [hg] at h6
            simp only [gSlot, List.mem_singleton] at h6
            subst h6
            unfold StepX at h1
            split at h1
            · exact .inl ⟨want, h1.1 k want hg⟩
            · obtain ⟨s', b', h7, h8⟩ := h1
              rw [hg] at h7; cases h7
              exact h8.imp (fun h8 => ⟨_, h8⟩) id
        simp only [famOf] at this hb
        rcases this with ⟨bb, hbb⟩ | hbb <;> rw [hbb] at hb <;> simp [ment, ment1] at hb
    · have h6 := h2.1.1.2 k h5
      simp only [famOf] at h6 hb
      have h7 : ∀ d : D, isB d = true → ment b all d = false := fun d hd => by cases d <;> first | rfl | (simp [isB] at hd)
      rw [h7 _ h6] at hb; cases hb
  · -- what reads a column writes its slot alone
    obtain ⟨t, ht⟩ := get i hn
    obtain ⟨h1, h2, h3, h4⟩ := hs' i t ht
    simp only [famOf, ht] at hp
    simp only [Fam.W, famOf, ht] at hk
    rw [h4] at hp
    simp only [rdN] at hp
    exact fine_w h1 h2 hp hk
  · obtain ⟨t, ht⟩ := get i hn
    obtain ⟨h1, h2, _, h4⟩ := hs' i t ht
    simp only [famOf, ht] at hk ⊢
    rw [h4] at hk
    simp only [chk, Bool.and_eq_true, List.all_eq_true] at h2
    rcases List.mem_append.1 hk with h5 | h5
    · have := h2.1.1.1 k h5
      intro e
      simp only [famOf] at this
      rw [e] at this
      simp [isAny] at this
    · have := h2.1.1.2 k h5
      intro e
      simp only [famOf] at this
      rw [e] at this
      simp [isB] at this
  · obtain ⟨t, ht⟩ := get i (Nat.lt_trans hij hn)
    obtain ⟨u, hu⟩ := get j hn
    simp only [indOk, List.all_eq_true] at hi
    have h1 := hi ((enc4 t.2.2, wrK (wsOf t.1 t.2.1) (ksOf t.2.1)), i) (List.mem_zipIdx_iff_getElem?.2 (by simp [ht])) ((enc4 u.2.2, wrK (wsOf u.1 u.2.1) (ksOf u.2.1)), j) (List.mem_zipIdx_iff_getElem?.2 (by simp [hu]))
    simp only [Bool.or_eq_true, Bool.not_eq_true', decide_eq_false_iff_not, Bool.and_eq_true] at h1
    rcases h1 with (h1 | h1) | h1
    · exact absurd hij h1
    · exact .inl h1
    · right
      simp only [apartL, List.all_eq_true, Bool.and_eq_true, Bool.not_eq_true'] at h1
      have nm : ∀ {l : List Nat} {k : Nat}, l.contains k = false → k ∉ l := fun h hm => by
        have := List.contains_iff_mem.2 hm
        rw [h] at this; cases this
      have one : ∀ (a b : TStep) (x y : Nat), ts[x]? = some a → ts[y]? = some b → (∀ k ∈ wrK (wsOf a.1 a.2.1) (ksOf a.2.1), ((enc4 b.2.2).contains k = false ∧ (wrK (wsOf b.1 b.2.1) (ksOf b.2.1)).contains k = false) ∧ ∀ q ∈ enc4 b.2.2, (!(decide (q % 4 = 2) && decide (k = 4 * (q / 256))) || colOk q (enc4 a.2.2)) = true) → (famOf hs ts f).Apart x y := by
        intro a b x y ha hb hab
        refine ⟨fun k hk => ?_, fun k hk hm => ?_⟩
        · have hk0 := hk
          simp only [Fam.W, famOf, ha] at hk
          obtain ⟨p, hp, rfl⟩ := List.mem_map.1 hk
          obtain ⟨⟨h2, h3⟩, h4⟩ := hab (4 * p.1) (List.mem_append.2 (.inl (List.mem_map.2 ⟨p, hp, rfl⟩)))
          refine ⟨fun hr => nm h2 (e1 (by simp only [famOf, hb] at hr; exact hr)), fun hw => nm h3 (List.mem_append.2 (.inl ?_)), fun m hm => ?_⟩
          · simp only [Fam.W, famOf, hb] at hw
            obtain ⟨q, hq, e⟩ := List.mem_map.1 hw
            exact List.mem_map.2 ⟨q, hq, by rw [e]⟩
          · simp only [famOf, hb] at hm
            have h5 := h4 _ (e3 hm)
            have h6 : (4 * (64 * p.1 + m % 64) + 2) % 4 = 2 := by omega
            have h7 : (4 * (64 * p.1 + m % 64) + 2) / 256 = p.1 := by omega
            have h8 : (4 * (64 * p.1 + m % 64) + 2) / 4 % 64 = m % 64 := by omega
            simp only [h6, h7, decide_true, Bool.and_self, Bool.not_true, Bool.false_or, colOk, h8, List.any_eq_true, Bool.and_eq_true, decide_eq_true_eq, Bool.not_eq_true', decide_eq_false_iff_not] at h5
            obtain ⟨z, hz, ⟨hz3, hzc⟩, hzo⟩ := h5
            obtain ⟨g1, g2, _, g4⟩ := hs' x a ha
            rcases e4 hz with ⟨_, _, h9⟩ | ⟨_, _, h9⟩ | ⟨_, _, h9⟩ | ⟨p', hp', h9⟩
            · omega
            · omega
            · omega
            · have e5 : p'.1 = p.1 := by omega
              have e6 : p'.2 % 64 ≠ m % 64 := fun e => hzo (by omega)
              rw [g4] at hp'
              simp only [rdN] at hp'
              have := fine_p g1 g2 hp' (m := m) (fun e => e6 (by rw [e]))
              unfold Fam.Pres
              rw [St_succ]
              unfold Fam.E
              simp only [famOf, ha] at this ⊢
              rw [e5] at this
              exact this
        · simp only [famOf, ha] at hk
          obtain ⟨⟨h2, _⟩, _⟩ := hab (4 * k.1 + 1) (List.mem_append.2 (.inr (List.mem_map.2 ⟨k, hk, rfl⟩)))
          refine nm h2 (e2 ?_)
          simp only [famOf, hb] at hm; exact hm
      exact ⟨one t u i j ht hu h1.1, one u t j i hu ht h1.2⟩
end
def uH (ops : Array Oper) (H : Array Nat) (j : Nat) : Nat := match ops[j]? with
  | some o => o.after.toList.foldl (fun s e => if Region.binds .any e then s ||| 2 ^ e.on ||| H.getD e.on 0 else s) 0
  | none => 0
def edgesOk (ops : Array Oper) (j : Nat) : Bool := match ops[j]? with
  | some o => o.after.toList.all fun e => !Region.binds .any e || decide (e.on < j)
  | none => true
theorem foldl_bits (H : Array Nat) (i : Nat) : ∀ (l : List Edge) (s : Nat), (l.foldl (fun s e => if Region.binds .any e then s ||| 2 ^ e.on ||| H.getD e.on 0 else s) s).testBit i = true →
    s.testBit i = true ∨ ∃ e ∈ l, Region.binds .any e = true ∧ (i = e.on ∨ (H.getD e.on 0).testBit i = true)
  | [], s, h => .inl h
  | e :: l, s, h => by
    simp only [List.foldl_cons] at h
    rcases foldl_bits H i l _ h with h1 | ⟨e', h1, h2⟩
    · split at h1
      · rename_i hb
        simp only [Nat.testBit_or, Bool.or_eq_true, Nat.testBit_two_pow, decide_eq_true_eq] at h1
        rcases h1 with (h1 | h1) | h1
        · exact .inl h1
        · exact .inr ⟨e, by simp, hb, .inl h1.symm⟩
        · exact .inr ⟨e, by simp, hb, .inr h1⟩
      · exact .inl h1
    · exact .inr ⟨e', by simp [h1], h2⟩
theorem uH_bits {ops : Array Oper} {H : Array Nat} {j i : Nat} (h : (uH ops H j).testBit i = true) : ∃ o, ops[j]? = some o ∧ ∃ e ∈ o.after.toList, Region.binds .any e = true ∧ (i = e.on ∨ (H.getD e.on 0).testBit i = true) := by
  unfold uH at h
  split at h
  · rename_i o ho
    rcases foldl_bits H i _ 0 h with h1 | h1
    · simp at h1
    · exact ⟨o, ho, h1⟩
  · simp at h
def drawOk (hs : List Nat) (ops : Array Oper) : Bool := (List.range ops.size).all fun j => hs.getD j 0 == uH ops hs.toArray j && edgesOk ops j
def left (n : Nat) (l : Nat → Bool) : Nat := ((List.range n).filter fun i => !l i).length
theorem filter_lt {p q : Nat → Bool} {j : Nat} (hpq : ∀ i, q i = true → p i = true) (hp : p j = true) (hq : q j = false) : ∀ (l : List Nat), j ∈ l → (l.filter q).length < (l.filter p).length
  | [], h => by simp at h
  | i :: l, h => by
    have hle : (l.filter q).length ≤ (l.filter p).length := by
      clear h
      induction l with
      | nil => simp
      | cons x l ih =>
        simp only [List.filter_cons]
        cases hqx : q x with
        | true => simp [hpq x hqx, ih]
        | false => cases p x <;> simp <;> omega
    by_cases hij : i = j
    · subst hij
      simp [hp, hq]
      omega
    · have := filter_lt hpq hp hq l (by simpa [Ne.symm hij] using h)
      simp only [List.filter_cons]
      cases hqx : q i with
      | true => simp [hpq i hqx, this]
      | false => cases p i <;> simp <;> omega
section
variable {P : Program} {F : Fid} {C : Nat → List D → D → List D → Prop} {nt : Nat} {S : Nat → Prop} {L : Nat → Option Loc} {w0 : World} {M0 : Mem} {f : Nat → D} {M : Mem} {a : Act} {w : World} {Q : Exit → Act → World → Prop}
def lst (listed : Array Bool) : Nat → Bool := fun i => listed.getD i true
theorem mem_ready' {ops : Array Oper} {listed : Array Bool} {i : Nat} : i ∈ Region.ready .any ops listed ↔ i < ops.size ∧ lst listed i = false ∧ ∃ o, ops[i]? = some o ∧ ∀ e ∈ o.after, Region.binds .any e = true → listed.getD e.on false = true := by
  simp only [Region.ready, List.mem_filter, List.mem_range, Bool.and_eq_true, Bool.not_eq_true', lst]
  constructor
  · rintro ⟨h1, h2, h3⟩
    refine ⟨h1, h2, ops[i], Array.getElem?_eq_getElem h1, fun e he hb => ?_⟩
    rw [Array.getElem?_eq_getElem h1] at h3
    simp only [Option.map_some, Option.getD_some, Array.all_eq_true_iff_forall_mem, Bool.or_eq_true, Bool.not_eq_true'] at h3
    rcases h3 e he with h4 | h4
    · rw [hb] at h4; cases h4
    · exact h4
  · rintro ⟨h1, h2, o, h3, h4⟩
    refine ⟨h1, h2, ?_⟩
    rw [h3]
    simp only [Option.map_some, Option.getD_some, Array.all_eq_true_iff_forall_mem, Bool.or_eq_true, Bool.not_eq_true']
    intro e he
    cases hb : Region.binds .any e with
    | false => exact .inl rfl
    | true => exact .inr (h4 e he hb)
theorem getD_arr (hs : List Nat) (j : Nat) : hs.toArray.getD j 0 = hs.getD j 0 := by
  simp [Array.getD_eq_getD_getElem?, List.getD_eq_getElem?_getD]
theorem resX_near {f g : Nat → D} {n : NOper} {dst : Option Nat} {K : List (Nat × D) → List (Nat × Bool) → Prop} (hv : ∀ x ∈ opdsOf n.op, vd g x = vd f x) (hr : ∀ b ∈ rdR f n, g b = f b) (hc : ∀ p ∈ frR f n, colV p.2 (g p.1) = colV p.2 (f p.1)) (h : resX C f dst K n.op) : resX C g dst K n.op := by
  obtain ⟨d0, o, g0⟩ := n
  simp only at hv h ⊢
  have full : (∀ x ∈ opdsOf o, x ∈ opsN o) → resX C g dst K o := fun hN => resX_local hv (fun x hx b hb => hr b (List.mem_append.2 (.inl (List.mem_flatMap.2 ⟨x, hN x hx, ment_roots hb⟩)))) h
  cases o with
  | mov x => simp only [resX, res, hv x (by simp [opdsOf])] at h ⊢; exact h
  | nck x => simp only [resX, res, hv x (by simp [opdsOf])] at h ⊢; exact h
  | un op x => simp only [resX, res, hv x (by simp [opdsOf])] at h ⊢; exact h
  | conv k x => simp only [resX, res, hv x (by simp [opdsOf])] at h ⊢; exact h
  | fld a b c x => simp only [resX, res, hv x (by simp [opdsOf])] at h ⊢; exact h
  | ext i x => simp only [resX, res, hv x (by simp [opdsOf])] at h ⊢; exact h
  | fad i x => simp only [resX, res, hv x (by simp [opdsOf])] at h ⊢; exact h
  | boxF x => simp only [resX, res, hv x (by simp [opdsOf])] at h ⊢; exact h
  | blsF sz len zs ps =>
    have e : ∀ p ∈ ps, vd g p.2 = vd f p.2 := fun p hp => hv _ (List.mem_map.2 ⟨p, hp, rfl⟩)
    simp only [resX, res] at h ⊢
    rw [fillR_local e]
    exact ⟨fun p hp => by rw [e p hp]; exact h.1 p hp, h.2⟩
  | blsX sz len zs ps =>
    have e : ∀ p ∈ ps, vd g p.2 = vd f p.2 := fun p hp => hv _ (List.mem_map.2 ⟨p, hp, rfl⟩)
    simp only [resX, res] at h ⊢
    rw [cellsX_local e]
    exact ⟨h.1, fun p hp => by rw [e p hp]; exact h.2.1 p hp, h.2.2⟩
  | len x => simp only [resX, res, hv x (by simp [opdsOf])] at h ⊢; exact h
  | pick c x y => simp only [resX, res, hv c (by simp [opdsOf]), hv x (by simp [opdsOf]), hv y (by simp [opdsOf])] at h ⊢; exact h
  | bin op x y => simp only [resX, res, hv x (by simp [opdsOf]), hv y (by simp [opdsOf])] at h ⊢; exact h
  | iadA l s x i => simp only [resX, res, hv x (by simp [opdsOf]), hv i (by simp [opdsOf])] at h ⊢; exact h
  | bld zs ps =>
    have e : ∀ p ∈ ps, vd g p.2.2 = vd f p.2.2 := fun p hp => hv _ (List.mem_map.2 ⟨p, hp, rfl⟩)
    simp only [resX, res] at h ⊢
    obtain ⟨h1, h2, h3⟩ := h
    have e2 : (ps.all fun p => isV (vd g p.2.2)) = (ps.all fun p => isV (vd f p.2.2)) := by
      rw [Bool.eq_iff_iff, List.all_eq_true, List.all_eq_true]
      exact ⟨fun h p hp => by rw [← e p hp]; exact h p hp, fun h p hp => by rw [e p hp]; exact h p hp⟩
    have m1 : (ps.map fun p => (p.1, p.2.1, vd g p.2.2)) = ps.map fun p => (p.1, p.2.1, vd f p.2.2) := List.map_congr_left fun p hp => by rw [e p hp]
    have m2 : (ps.map fun p => (p.1, p.2.1, aggOf (vd g p.2.2))) = ps.map fun p => (p.1, p.2.1, aggOf (vd f p.2.2)) := List.map_congr_left fun p hp => by rw [e p hp]
    rw [e2, m1, m2]
    exact ⟨fun p hp => by rw [e p hp]; exact h1 p hp, h2, h3⟩
  | mk k xs =>
    have e : ∀ x ∈ xs, vd g x = vd f x := fun x hx => hv x hx
    simp only [resX, res] at h ⊢
    obtain ⟨h1, h2, h3⟩ := h
    have e2 : (xs.all fun x => isV (vd g x)) = (xs.all fun x => isV (vd f x)) := by
      rw [Bool.eq_iff_iff, List.all_eq_true, List.all_eq_true]
      exact ⟨fun h p hp => by rw [← e p hp]; exact h p hp, fun h p hp => by rw [e p hp]; exact h p hp⟩
    rw [e2, List.map_congr_left e]
    exact ⟨fun p hp => by rw [e p hp]; exact h1 p hp, h2, h3⟩
  | ldQ q x =>
    have e := hv x (by simp [opdsOf])
    simp only [resX, e] at h ⊢
    split at h
    · rename_i c i off ex
      obtain ⟨rfl, h⟩ := h
      split at h
      · rename_i sz es hf
        obtain ⟨r, h1, d, h2, h3⟩ := h
        have h4 := hc (c, off) (by simp [frR, ex])
        simp only [hf, colV] at h4
        refine ⟨rfl, ?_⟩
        split at h4
        · rename_i sz' es' hg
          simp only [Option.some.injEq] at h4
          have h5 := congrArg (fun l => l[i]?) h4
          simp only [List.getElem?_map, h1, Option.map_some] at h5
          rw [Option.map_eq_some_iff] at h5
          obtain ⟨r', h6, h7⟩ := h5
          simp only [hg]
          exact ⟨r', h6, d, by rw [h7]; exact h2, h3⟩
        · cases h4
      · exact h.elim
    · exact h.elim
  | ld n ag x =>
    have e := hv x (by simp [opdsOf])
    simp only [resX, res, e] at h ⊢
    split at h
    · rename_i p i off ex
      rw [getP_local (p := p) (hr _ (List.mem_append.2 (.inr (List.mem_flatMap.2 ⟨x, by simp [ldN], by rw [ex]; simp [mroots1]⟩))))]
      exact h
    · exact h
    · exact h
    · exact h
  | _ => exact full (fun x hx => hx)
theorem any_order (hC : CSound P F C) (hL : NoL L) {hs : List Nat} {ops : Array Oper} {ts : List TStep} {f' : Nat → D} (htr : Tr C ts f f') (hok : (famOf hs ts f).Ok) (hlen : ts.length = ops.size) (hb : ∀ j, j < ops.size → hs.getD j 0 = uH ops hs.toArray j) (hed : ∀ (j : Nat) (o : Oper), ops[j]? = some o → ∀ e ∈ o.after, Region.binds .any e = true → e.on < j)
    (hk : ∀ (j : Nat) (t : TStep) (o : Oper), ts[j]? = some t → ops[j]? = some o → nopOk P F nt ops t.1 o = true)
    (hQ : ∀ M a w, SR F nt S L w0 M0 f' M a w → Q .normal a w) : ∀ (fuel : Nat) (listed : Array Bool) (M : Mem) (a : Act) (w : World), listed.size = ops.size → left ops.size (lst listed) ≤ fuel →
      (∀ j, j < ops.size → lst listed j = true → ∀ i, (hs.getD j 0).testBit i = true → i < ops.size ∧ lst listed i = true) → SR F nt S L w0 M0 ((famOf hs ts f).G (lst listed) ts.length) M a w → wpAny P .any ops Q fuel listed a w := by
  obtain ⟨hf', hsp⟩ := tr_spec hs ts f f' htr
  have hall : ∀ (listed : Array Bool), (∀ i, i < ops.size → lst listed i = true) → (famOf hs ts f).G (lst listed) ts.length = f' := by
    intro listed h
    rw [hf']
    unfold Fam.St
    have : ∀ m, m ≤ ts.length → (famOf hs ts f).G (lst listed) m = (famOf hs ts f).G (fun _ => true) m := by
      intro m
      induction m with
      | zero => intro _; rfl
      | succ m ih =>
        intro hm
        simp only [Fam.G]
        rw [h m (by omega), ih (by omega)]
        rfl
    exact this _ (Nat.le_refl _)
  intro fuel
  induction fuel with
  | zero =>
    intro listed M a w hs' hf hcl h
    have hal : ∀ i, i < ops.size → lst listed i = true := by
      intro i hi
      cases hl : lst listed i with
      | true => rfl
      | false =>
        have : i ∈ (List.range ops.size).filter fun i => !lst listed i := by simp [hi, hl]
        have := List.length_pos_of_mem this
        unfold left at hf
        omega
    refine ⟨?_, hQ M a w (by rw [← hall listed hal]; exact h)⟩
    rw [List.eq_nil_iff_forall_not_mem]
    intro i hi
    obtain ⟨h1, h2, _⟩ := mem_ready'.1 hi
    rw [hal i h1] at h2
    cases h2
  | succ fuel ih =>
    intro listed M a w hs' hf hcl h
    refine ⟨fun hr => hQ M a w ?_, fun j hj => ?_⟩
    · have hal : ∀ i, i < ops.size → lst listed i = true := by
        intro i
        induction i using Nat.strongRecOn with
        | _ i ihi =>
          intro hi
          cases hl : lst listed i with
          | true => rfl
          | false =>
            have : i ∈ Region.ready .any ops listed := mem_ready'.2 ⟨hi, hl, ops[i], Array.getElem?_eq_getElem hi, fun e he hb => by
              have h1 := hed i _ (Array.getElem?_eq_getElem hi) e he hb
              have h2 := ihi e.on h1 (by omega)
              unfold lst at h2
              rw [Array.getD_eq_getD_getElem?] at h2 ⊢
              rw [Array.getElem?_eq_getElem (by omega)] at h2 ⊢
              simpa using h2⟩
            rw [hr] at this
            cases this
      rw [← hall listed hal]
      exact h
    · obtain ⟨h1, h2, o, h3, h4⟩ := mem_ready'.1 hj
      obtain ⟨t, ht⟩ : ∃ t, ts[j]? = some t := ⟨ts[j]'(by omega), List.getElem?_eq_getElem (by omega)⟩
      have hanc : ∀ i, (hs.getD j 0).testBit i = true → i < ops.size ∧ lst listed i = true := by
        intro i hi
        rw [hb j h1] at hi
        obtain ⟨o', ho', e, he, hbd, h5⟩ := uH_bits hi
        rw [h3] at ho'
        cases ho'
        have h6 := hed j o h3 e (by simpa using he) hbd
        have h7 := h4 e (by simpa using he) hbd
        have h8 : lst listed e.on = true := by
          unfold lst
          rw [Array.getD_eq_getD_getElem?] at h7 ⊢
          rw [Array.getElem?_eq_getElem (by omega)] at h7 ⊢
          simpa using h7
        rcases h5 with rfl | h5
        · exact ⟨by omega, h8⟩
        · rw [getD_arr] at h5
          exact hcl e.on (by omega) h8 i h5
      have hshut : Shut (famOf hs ts f) (lst listed) := fun j' hj' hl' i _ hbf => (hcl j' (by simpa [famOf, hlen] using hj') hl' i hbf).2
      have hjn : j < (famOf hs ts f).n := by simp only [famOf]; omega
      have hreads := hok.reads hshut hjn h2 (fun i _ hbf => (hanc i hbf).2)
      have hcols := hok.readsC hshut hjn h2 (fun i _ hbf => (hanc i hbf).2)
      obtain ⟨g1, g2, g3, g4⟩ := hsp j t ht
      have hrd : (famOf hs ts f).rd j = t.2.2.1 := by simp [famOf, ht]
      have hn : (famOf hs ts f).n = ts.length := rfl
      rw [hrd, hn, g4] at hreads
      have hfr : (famOf hs ts f).fr j = frR ((famOf hs ts f).St j) t.1 := by
        have : (famOf hs ts f).fr j = t.2.2.2.2.1 := by simp [famOf, ht]
        rw [this, g4]; rfl
      rw [hfr, hn] at hcols
      have hstep : StepX C t.1 ((famOf hs ts f).G (lst listed) ts.length) t.2.1 := by
        have hv : ∀ x ∈ opdsOf t.1.op, vd ((famOf hs ts f).G (lst listed) ts.length) x = vd ((famOf hs ts f).St j) x := fun x hx => by
          cases x with
          | t s => exact hreads s (List.mem_append.2 (.inl (List.mem_append.2 (.inl (List.mem_flatMap.2 ⟨_, hx, by simp [opdSlots]⟩)))))
          | c d => rfl
        have ha : ∀ b ∈ rdR ((famOf hs ts f).St j) t.1, (famOf hs ts f).G (lst listed) ts.length b = (famOf hs ts f).St j b := fun b hb => hreads b (List.mem_append.2 (.inr hb))
        have hg : ∀ s b, t.1.guard = some (s, b) → (famOf hs ts f).G (lst listed) ts.length s = (famOf hs ts f).St j s := fun s b e =>
          hreads s (List.mem_append.2 (.inl (List.mem_append.2 (.inr (by rw [e]; simp [gSlot])))))
        unfold StepX at g1 ⊢
        split at g1
        · exact ⟨fun s b e => by rw [hg s b e]; exact g1.1 s b e, resX_near hv ha hcols g1.2⟩
        · obtain ⟨s, b, e1, e2⟩ := g1
          exact ⟨s, b, e1, by rw [hg s b e1]; exact e2⟩
      have hlst : ∀ i, lst (listed.setIfInBounds j true) i = (if i = j then true else lst listed i) := by
        intro i
        unfold lst
        rw [Array.getD_eq_getD_getElem?, Array.getD_eq_getD_getElem?, Array.getElem?_setIfInBounds]
        by_cases hij : i = j
        · subst hij; simp [show i < listed.size from by omega]
        · simp [hij, Ne.symm hij]
      have hlst' : ∀ i, i ≠ j → lst (listed.setIfInBounds j true) i = lst listed i := fun i hi => by rw [hlst, if_neg hi]
      have hlstj : lst (listed.setIfInBounds j true) j = true := by rw [hlst, if_pos rfl]
      have hmore : (famOf hs ts f).G (lst (listed.setIfInBounds j true)) ts.length = effX t.1 t.2.1 ((famOf hs ts f).G (lst listed) ts.length) := by
        rw [effX_eq]
        have := hok.more hshut hjn h2 hlstj hlst'
        rw [hn] at this
        rw [this]
        simp [Fam.E, famOf, ht]
      have hfin : ∀ M' a' w', SR F nt S L w0 M0 (effX t.1 t.2.1 ((famOf hs ts f).G (lst listed) ts.length)) M' a' w' → wpAny P .any ops Q fuel (listed.setIfInBounds j true) a' w' := by
        intro M' a' w' h'
        refine ih _ M' a' w' (by simpa using hs') ?_ (fun j' hj' hl' i hi => ?_) (by rw [hmore]; exact h')
        · have : left ops.size (lst (listed.setIfInBounds j true)) < left ops.size (lst listed) := by
            refine filter_lt (j := j) (fun i hi => ?_) (by simp [h2]) (by simp [hlstj]) _ (by simpa using h1)
            by_cases hij : i = j
            · subst hij; simp [h2]
            · rw [hlst' i hij] at hi; exact hi
          omega
        · by_cases hjj : j' = j
          · subst hjj
            obtain ⟨q1, q2⟩ := hanc i hi
            refine ⟨q1, ?_⟩
            rw [hlst]; split
            · rfl
            · exact q2
          · rw [hlst' j' hjj] at hl'
            obtain ⟨q1, q2⟩ := hcl j' hj' hl' i hi
            refine ⟨q1, ?_⟩
            rw [hlst]; split
            · rfl
            · exact q2
      have := stepF hC hL (hk j t o ht h3) h hstep (R := wpAny P .any ops Q fuel (listed.setIfInBounds j true)) hfin (Q := Q)
      unfold wpOp
      rw [h3]
      exact this
theorem region_draw (hC : CSound P F C) (hL : NoL L) (hm : P.follows .mixedOrders = true) {hs : List Nat} {ops : Array Oper} {ns : List NOper} (hk : regOk P F nt ns ops = true) (hdr : drawOk hs ops = true) {id : Nat} {K : Env → Prop} {e : Env} (h : SR F nt S L w0 M0 (look e) M a w) (hr : wpNd C hs K ns e [])
    (hQ : ∀ e M a w, SR F nt S L w0 M0 (look e) M a w → K e → Q .normal a w) : (Code.region id ops true).wp P Q a w := by
  simp only [regOk, Bool.and_eq_true, beq_iff_eq, List.all_eq_true] at hk
  obtain ⟨ts, e', g1, g2, g3, g4⟩ := tr_of ns e [] hr
  have hlen : ts.length = ops.size := by
    have : ts.length = ns.length := by rw [← g1]; simp
    rw [this]; simpa using hk.1
  have hok := fam_ok g2 (by simpa using g3)
  simp only [drawOk, List.all_eq_true, List.mem_range, Bool.and_eq_true, beq_iff_eq] at hdr
  refine wp_region_any hm (any_order hC hL (hs := hs) g2 hok hlen (fun j hj => (hdr j hj).1) (fun j o ho e he hb => ?_) (fun j t o ht ho => ?_) (fun M a w hs => hQ e' M a w hs g4) _ _ M a _ (by simp) ?_ ?_ ?_)
  · obtain ⟨hj, _⟩ := Array.getElem?_eq_some_iff.1 ho
    have := (hdr j hj).2
    simp only [edgesOk, ho, List.all_eq_true, Bool.or_eq_true, Bool.not_eq_true', decide_eq_true_eq] at this
    rcases this e (by simpa using he) with h5 | h5
    · rw [hb] at h5; cases h5
    · exact h5
  · refine hk.2 (t.1, o) ?_
    rw [List.mem_iff_getElem?]
    refine ⟨j, ?_⟩
    rw [List.getElem?_zip_eq_some]
    refine ⟨?_, by simpa using ho⟩
    rw [← g1]
    simp [ht]
  · have := List.length_filter_le (fun i => !lst (Array.replicate ops.size false) i) (List.range ops.size)
    simpa [left] using this
  · intro j hj hl
    simp [lst, hj] at hl
  · have h0 : ∀ m, m ≤ ts.length → (famOf hs ts (look e)).G (lst (Array.replicate ops.size false)) m = look e := by
      intro m
      induction m with
      | zero => intro _; rfl
      | succ m ih =>
        intro hm
        simp only [Fam.G]
        rw [ih (by omega)]
        have : lst (Array.replicate ops.size false) m = false := by simp [lst, show m < ops.size from by omega]
        rw [this]; rfl
    rw [h0 _ (Nat.le_refl _)]
    exact h.grow (Bel.drew _)
end
end Go.Gv
