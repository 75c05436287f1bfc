/-
  Texts of the proof: Q24, Q26, Q34, Q37, Q35, Q38.
-/
import Derived.Test.YtcaifeolkhchoaaGreatX8
import Derived.Test.YtcaifeolkhchoaaGreatX7
set_option linter.all false
set_option linter.unusedSimpArgs false
namespace Go.Gv
def ptN (at' : List Int) (i : Nat) (s : Sp) : Int := if at'.length = 0 then s.1 else s.1 + at'[i % at'.length]! % (s.2 - s.1 + 1)
def ptS (at' : List Int) (i : Nat) (s : Sp) : Sp := (ptN at' i s, ptN at' i s)
def ptL (at' : List Int) (q : List Sp) : List Sp := (List.range q.length).map fun i => ptS at' i q[i]!
def insS (a b : Sp) : Bool := decide (b.1 ≤ a.1) && decide (a.2 ≤ b.2)
variable {C : CC} (hC : Closed prog C)
include hC
end Go.Gv

set_option linter.unusedSimpArgs false
namespace Go.Gv
structure FlIn (a b : List Sp) : Prop where
  len : b.length = a.length
  get : ∀ (i : Nat) (h : i < a.length) (h' : i < b.length), 0 ≤ a[i].1 ∧ a[i].1 ≤ b[i].1 ∧ b[i].1 = b[i].2 ∧ b[i].2 ≤ a[i].2
theorem bang {l : List Sp} {v : Nat} (h : v < l.length) : l[v]! = l[v] := getElem!_pos l v h
theorem bigF_of {fl : List Sp} (h : ∀ s ∈ fl, s.2 ≤ 1099511627776) : bigF fl = false := by
  unfold bigF
  rw [List.any_eq_false]
  intro s hs
  have := h s hs
  simp
  omega
end Go.Gv

set_option linter.unusedSimpArgs false
namespace Go.Gv
theorem Pth.wat {es : List Edg} (hnd : (es.map (·.1)).Nodup) {v x : Nat} (h : Pth es v x) : ∃ m, wat es m v = some x := by
  have cons : ∀ {u v : Nat}, (u, v) ∈ es → ∀ m, Go.Gv.wat es (m + 1) u = Go.Gv.wat es m v := fun {u v} e m => by
    induction m with
    | zero => show (some u).bind (stp es) = some v; exact stp_of hnd e
    | succ m ih =>
      show (Go.Gv.wat es (m + 1) u).bind (stp es) = (Go.Gv.wat es m v).bind (stp es)
      rw [ih]
  induction h with
  | refl v => exact ⟨0, rfl⟩
  | step e _ ih =>
    obtain ⟨m, hm⟩ := ih
    exact ⟨m + 1, by rw [cons e]; exact hm⟩
theorem wat_Pth {es : List Edg} {v : Nat} : ∀ {m x : Nat}, wat es m v = some x → Pth es v x
  | 0, x, h => by simp [wat] at h; subst h; exact .refl v
  | m + 1, x, h => by
    unfold wat at h
    cases e : wat es m v with
    | none => rw [e] at h; cases h
    | some y =>
      rw [e] at h
      exact (wat_Pth e).snoc (stp_some h)
theorem Pth.turn {es : List Edg} {v x : Nat} (h : Pth es v x) : Pth (trn es) x v := by
  induction h with
  | refl v => exact .refl v
  | step e _ ih => exact ih.snoc (List.mem_map.2 ⟨_, e, rfl⟩)
theorem Pth.turn2 {es : List Edg} {v x : Nat} (h : Pth (trn es) x v) : Pth es v x := by
  have := h.turn
  have e : trn (trn es) = es := by
    unfold trn
    rw [List.map_map]
    exact List.map_id es
  rwa [e] at this
theorem upX_eq {n : Nat} {es : List Edg} (hg : inG n es) (ht : treeF n es = true) {x v : Nat} (hv : v < n) : (if v = x then true else upsR es x v) = upB n es v x := by
  simp only [treeF, Bool.and_eq_true, decide_eq_true_eq] at ht
  obtain ⟨hnd, hlen⟩ := ht
  have key : upB n es v x = true ↔ Pth es v x := by
    unfold upB
    rw [List.any_eq_true]
    constructor
    · rintro ⟨m, _, e⟩
      exact wat_Pth (by simpa using e)
    · intro h
      obtain ⟨m, hm⟩ := h.wat hnd
      refine ⟨m, ?_, by simp [hm]⟩
      rw [List.mem_range]
      have := wat_rank hg hlen hm
      by_cases e : m = 0
      · omega
      · have := this.2 e; omega
  rw [Bool.eq_iff_iff, key]
  by_cases e : v = x
  · rw [if_pos e, e]
    exact ⟨fun _ => .refl x, fun _ => rfl⟩
  · rw [if_neg e]
    unfold upsR
    rw [rB_iff]
    constructor
    · rintro ⟨s, hs, hp⟩
      exact (Pth.step (mem_tgs.1 hs) hp).turn2
    · intro h
      have h2 := h.turn
      cases h2 with
      | refl => exact absurd rfl e
      | step e2 h3 => exact ⟨_, mem_tgs.2 e2, h3⟩
def sumSp (q : List Sp) (f : Nat → Bool) (k : Nat) : Sp := (sumF (fun v => if f v = true then q[v]!.1 else 0) k, sumF (fun v => if f v = true then q[v]!.2 else 0) k)
theorem sumSp_rng {q : List Sp} {f : Nat → Bool} (hq : ∀ s ∈ q, 0 ≤ s.1 ∧ s.1 ≤ s.2 ∧ s.2 ≤ 1099511627776) : ∀ {k : Nat}, k ≤ q.length → 0 ≤ (sumSp q f k).1 ∧ (sumSp q f k).1 ≤ k * 1099511627776 ∧ 0 ≤ (sumSp q f k).2 ∧ (sumSp q f k).2 ≤ k * 1099511627776
  | 0, _ => by simp [sumSp, sumF]
  | k + 1, h => by
    have ih := sumSp_rng hq (k := k) (f := f) (by omega)
    have := hq _ (List.getElem_mem (show k < q.length by omega))
    simp only [sumSp, sumF] at ih ⊢
    rw [bang (show k < q.length by omega)]
    by_cases c : f k = true
    · rw [if_pos c, if_pos c]; push_cast; omega
    · rw [if_neg c, if_neg c]; push_cast; omega
variable {C : CC} (hC : Closed prog C)
include hC
set_option maxHeartbeats 4000000 in
theorem rAll_c (b1 b2 b : Bool) (ns : List Nod) (ls : List Lnk) (q : List Sp) (ht : treeN ns ls = true) (hq : q.length = ns.length) (hqr : ∀ s ∈ q, 0 ≤ s.1 ∧ s.1 ≤ s.2 ∧ s.2 ≤ 1099511627776) : C 466 [.agg [slx b1 (ns.map nodC), slx b2 (ls.map lnkC)], slx b (q.map knD)] (.tup [if bigF (flowsF ns.length (edgN ns ls) q) then .nils else .sl ((flowsF ns.length (edgN ns ls) q).map knD), .bool (!bigF (flowsF ns.length (edgN ns ls) q))]) [] := by
  have ht2 := ht
  simp only [treeN, Bool.and_eq_true] at ht2
  obtain ⟨⟨hv, _⟩, htf⟩ := ht2
  obtain ⟨l1, l2⟩ := netOk_len hv
  have hg := edgN_in hv
  have hel := edgN_len ns ls
  have hl1 : ∀ v, v < ns.length → 0 ≤ q[v]!.1 ∧ q[v]!.1 ≤ q[v]!.2 ∧ q[v]!.2 ≤ 1099511627776 := fun v hv => by
    rw [bang (by omega)]
    exact hqr _ (List.getElem_mem _)
  have k1 := fun k (hk : k < ls.length) => rUpper_c hC b1 b2 ns ls k hv hk
  have hfl : ∀ (k : Nat) (hk : k < ls.length), (flowsF ns.length (edgN ns ls) q)[k]? = some (sumSp q (upX ns ls ((edgN ns ls)[k]'(by rw [edgN_len]; exact hk)).1) ns.length) := fun k hk => by
    have hke : k < (edgN ns ls).length := by rw [edgN_len]; exact hk
    have f1 := flow_up l1 hg htf hl1 hke
    have hkl : k < (flowsF ns.length (edgN ns ls) q).length := by simp [flowsF, hel, hk]
    rw [bang hkl] at f1
    rw [List.getElem?_eq_getElem hkl, f1]
    congr 1
    unfold sumSp upS
    have e : ∀ v, v < ns.length → upX ns ls ((edgN ns ls)[k]'(by rw [edgN_len]; exact hk)).1 v = upB ns.length (edgN ns ls) v (edgN ns ls)[k].1 := fun v hv => upX_eq hg htf hv
    rw [sumF_congr (f := fun v => if upB ns.length (edgN ns ls) v (edgN ns ls)[k].1 = true then q[v]!.1 else 0) (g := fun v => if upX ns ls ((edgN ns ls)[k]'(by rw [edgN_len]; exact hk)).1 v = true then q[v]!.1 else 0) (fun v hv => by rw [e v hv])]
    rw [sumF_congr (f := fun v => if upB ns.length (edgN ns ls) v (edgN ns ls)[k].1 = true then q[v]!.2 else 0) (g := fun v => if upX ns ls ((edgN ns ls)[k]'(by rw [edgN_len]; exact hk)).1 v = true then q[v]!.2 else 0) (fun v hv => by rw [e v hv])]
  have hfll : (flowsF ns.length (edgN ns ls) q).length = ls.length := by simp [flowsF, hel]
  generalize flowsF ns.length (edgN ns ls) q = fl at *
  refine start hC (nf := N466_ref30_All) rfl rfl ?_
  simp [N466_ref30_All]
  refine loop_of Nat (fun i => [(1, slx b (q.map knD)), (2, .ptr [slx b1 (ns.map nodC), slx b2 (ls.map lnkC)]), (6, .ref (.r 10096) 0 i), (10096, .blk 2 (spT fl i)), (7, .int .i64 i)]) (fun i => i ≤ ls.length ∧ ∀ (j : Nat) (h : j < fl.length), j < i → fl[j].2 ≤ 1099511627776) (fun i => ls.length - i) 0 (by simp) (by simp [spT]) ?_
  rintro i ⟨hi, hj⟩
  simp
  refine brB_of (fun h => ?_) (fun h => ?_) <;> simp [h] <;> simp at h
  · have hw : IntKind.wrap .i64 ((i : Int) + 1) = ((i + 1 : Nat) : Int) := wrap_i64 (by omega) (by omega)
    have hif : i < fl.length := by omega
    have k2 := k1 i h
    have hfi := hfl i h
    rw [List.getElem?_eq_getElem hif] at hfi
    have hfi := Option.some.inj hfi
    refine callW_of k2 (.inr rfl) ?_
    generalize upX ns ls ((edgN ns ls)[i]'(by rw [edgN_len]; exact h)).1 = f at *
    simp
    refine loop_of Nat (fun k => [(1, slx b (q.map knD)), (2, .ptr [slx b1 (ns.map nodC), slx b2 (ls.map lnkC)]), (6, .ref (.r 10096) 0 i), (10096, .blk 2 (spT fl i)), (7, .int .i64 i), (8, .sl (boolA ns.length f)), (9, .adr (.r 10144) 0 0), (10144, .blk 2 [knD (sumSp q f k)]), (10, .int .i64 k)]) (fun k => k ≤ ns.length) (fun k => ns.length - k) 0 (by simp) (by simp [sumSp, sumF, knD]) ?_
    rintro k hk
    simp
    refine brB_of (fun g => ?_) (fun g => ?_) <;> simp [g] <;> simp at g
    · have hwk : IntKind.wrap .i64 ((k : Int) + 1) = ((k + 1 : Nat) : Int) := wrap_i64 (by omega) (by omega)
      have hkq : k < q.length := by omega
      have r1 := sumSp_rng hqr (f := f) (k := k) (by omega)
      have r2 := sumSp_rng hqr (f := f) (k := k + 1) (by omega)
      have e1 : sumSp q f (k + 1) = if f k = true then ((sumSp q f k).1 + q[k].1, (sumSp q f k).2 + q[k].2) else sumSp q f k := by
        simp only [sumSp, sumF]
        rw [bang hkq]
        by_cases c : f k = true
        · rw [if_pos c, if_pos c, if_pos c]
        · rw [if_neg c, if_neg c, if_neg c]; congr 1 <;> omega
      generalize sumSp q f k = s at *
      simp [g, boolA_len, idxW_some (boolA_get f g), boolA_get f g]
      by_cases c : f k = true
      · rw [if_pos c] at e1
        rw [e1] at r2
        simp only at r2
        have w1 : IntKind.wrap .i64 (s.1 + q[k].1) = s.1 + q[k].1 := wrap_i64 rfl (by omega)
        have w2 : IntKind.wrap .i64 (s.2 + q[k].2) = s.2 + q[k].2 := wrap_i64 rfl (by omega)
        simp [c, hkq, knD, w1, w2]
        refine ⟨indW_of (by decide +kernel), k + 1, by omega, by omega, ?_, hwk⟩
        rw [e1]
        exact ⟨rfl, rfl⟩
      · rw [if_neg c] at e1
        have c' : f k = false := by simpa using c
        simp [c', hwk]
        exact ⟨k + 1, by omega, by omega, by rw [e1], by omega⟩
    · have ek : k = ns.length := by omega
      subst ek
      rw [← hfi]
      have hsl : (spT fl i).length = i := spT_len (by omega)
      simp [knD]
      by_cases c : 1099511627776 < fl[i].2
      · have hb : bigF fl = true := List.any_eq_true.2 ⟨fl[i], List.getElem_mem hif, by simpa using c⟩
        simp [c, hb]
      · simp [c, hw]
        refine ⟨by omega, by omega, i + 1, ⟨by omega, fun j hl hjj => ?_⟩, by omega, rfl, ?_, by omega⟩
        · rcases Nat.lt_succ_iff_lt_or_eq.1 hjj with h2 | rfl
          · exact hj j hl h2
          · omega
        · rw [spT_succ hif, List.take_of_length_le (by omega)]
          rfl
  · have ek : i = ls.length := by omega
    subst ek
    have hb : bigF fl = false := bigF_of fun s hs => by
      obtain ⟨j, hjl, rfl⟩ := List.getElem_of_mem hs
      exact hj j hjl (by omega)
    simp [hb]
    rw [spT_V, ← hfll, spT_end, List.take_of_length_le (by simp)]
    exact ⟨by simp, rfl⟩
end Go.Gv

set_option linter.unusedSimpArgs false
namespace Go.Gv
theorem upB_Pth {n : Nat} {es : List Edg} (hg : inG n es) (ht : treeF n es = true) {v x : Nat} (hv : v < n) : upB n es v x = true ↔ Pth es v x := by
  simp only [treeF, Bool.and_eq_true, decide_eq_true_eq] at ht
  obtain ⟨hnd, hlen⟩ := ht
  unfold upB
  rw [List.any_eq_true]
  constructor
  · rintro ⟨m, _, e⟩
    exact wat_Pth (by simpa using e)
  · intro h
    obtain ⟨m, hm⟩ := h.wat hnd
    refine ⟨m, ?_, by simp [hm]⟩
    rw [List.mem_range]
    have := wat_rank hg hlen hm
    by_cases e : m = 0
    · omega
    · have := this.2 e; omega
def mnP (P : Nat → Bool) (cf : Nat → Int) (m0 : Int) : Nat → Int
  | 0 => m0
  | i + 1 => if P i = true ∧ cf i < mnP P cf m0 i then cf i else mnP P cf m0 i
theorem mnP_spec (P : Nat → Bool) (cf : Nat → Int) (m0 : Int) : ∀ K, mnP P cf m0 K ≤ m0 ∧ (∀ i, i < K → P i = true → mnP P cf m0 K ≤ cf i) ∧ (mnP P cf m0 K = m0 ∨ ∃ i, i < K ∧ P i = true ∧ mnP P cf m0 K = cf i)
  | 0 => ⟨Int.le_refl _, fun i h => absurd h (Nat.not_lt_zero _), .inl rfl⟩
  | K + 1 => by
    obtain ⟨h1, h2, h3⟩ := mnP_spec P cf m0 K
    unfold mnP
    by_cases c : P K = true ∧ cf K < mnP P cf m0 K
    · rw [if_pos c]
      refine ⟨by omega, fun i hi hp => ?_, .inr ⟨K, by omega, c.1, rfl⟩⟩
      by_cases e : i = K
      · subst e; exact Int.le_refl _
      · have := h2 i (by omega) hp; omega
    · rw [if_neg c]
      refine ⟨h1, fun i hi hp => ?_, ?_⟩
      · by_cases e : i = K
        · subst e
          have : ¬ cf i < mnP P cf m0 i := fun h => c ⟨hp, h⟩
          omega
        · exact h2 i (by omega) hp
      · rcases h3 with h3 | ⟨i, a, b, d⟩
        · exact .inl h3
        · exact .inr ⟨i, by omega, b, d⟩
theorem mnP_uniq {P Q : Nat → Bool} {cf : Nat → Int} {m0 m1 : Int} {K : Nat} (h1 : mnP P cf m0 K ≤ m1) (h2 : ∀ i, i < K → Q i = true → mnP P cf m0 K ≤ cf i) (h3 : mnP P cf m0 K = m1 ∨ ∃ i, i < K ∧ Q i = true ∧ mnP P cf m0 K = cf i) : mnP P cf m0 K = mnP Q cf m1 K := by
  obtain ⟨a, b, c⟩ := mnP_spec Q cf m1 K
  apply Int.le_antisymm
  · rcases c with c | ⟨i, hi, hq, c⟩
    · rw [c]; exact h1
    · rw [c]; exact h2 i hi hq
  · rcases h3 with c | ⟨i, hi, hq, c⟩
    · rw [c]; exact a
    · rw [c]; exact b i hi hq
def msA (n : Nat) (es : List Edg) (cf : Nat → Int) (x : Nat) (l : Int) : Int := mnP (fun i => upB n es x es[i]!.1) cf l es.length
theorem msA_step {n : Nat} {es : List Edg} (hg : inG n es) (ht : treeF n es = true) (cf : Nat → Int) {x i0 : Nat} (hx : x < n) (h0 : i0 < es.length) (e0 : es[i0].1 = x) (l : Int) : msA n es cf x l = msA n es cf es[i0].2 (if l ≤ cf i0 then l else cf i0) := by
  have ht2 := ht
  simp only [treeF, Bool.and_eq_true, decide_eq_true_eq] at ht2
  obtain ⟨hnd, _⟩ := ht2
  have hm0 : es[i0] ∈ es := List.getElem_mem h0
  have hy := (hg _ hm0).2
  have hxy : (x, es[i0].2) ∈ es := by rw [← e0]; exact hm0
  have key : ∀ i, i < es.length → (upB n es x es[i]!.1 = true ↔ (i = i0 ∨ upB n es es[i0].2 es[i]!.1 = true)) := fun i hi => by
    rw [getElem!_pos es i hi, upB_Pth hg ht hx, upB_Pth hg ht hy]
    constructor
    · intro h
      generalize hs : es[i].1 = s at h
      cases h with
      | refl => exact .inl (src_uniq hnd hi h0 (by rw [hs, e0]))
      | step e h2 =>
        have := stp_of hnd e
        rw [stp_of hnd hxy] at this
        cases this
        exact .inr h2
    · rintro (rfl | h)
      · rw [e0]; exact .refl x
      · exact .step hxy h
  obtain ⟨a, b, c⟩ := mnP_spec (fun i => upB n es x es[i]!.1) cf l es.length
  refine mnP_uniq ?_ (fun i hi hq => b i hi ((key i hi).2 (.inr hq))) ?_
  · have := b i0 h0 ((key i0 h0).2 (.inl rfl))
    split <;> omega
  · rcases c with c | ⟨i, hi, hp, c⟩
    · left
      have := b i0 h0 ((key i0 h0).2 (.inl rfl))
      rw [if_pos (by omega)]; exact c
    · rcases (key i hi).1 hp with e | e
      · subst e
        left
        rw [c]
        split <;> omega
      · exact .inr ⟨i, hi, e, c⟩
theorem msA_end {n : Nat} {es : List Edg} (hg : inG n es) (ht : treeF n es = true) (cf : Nat → Int) {x : Nat} (hx : x < n) (h0 : ∀ (i : Nat) (h : i < es.length), es[i].1 ≠ x) (l : Int) : msA n es cf x l = l := by
  obtain ⟨a, b, c⟩ := mnP_spec (fun i => upB n es x es[i]!.1) cf l es.length
  rcases c with c | ⟨i, hi, hp, c⟩
  · exact c
  · exfalso
    simp only [getElem!_pos es i hi, upB_Pth hg ht hx] at hp
    generalize hs : es[i].1 = s at hp
    cases hp with
    | refl => exact h0 i hi hs
    | step e h2 =>
      obtain ⟨j, hj, ej⟩ := List.getElem_of_mem e
      exact h0 j hj (by rw [ej])
def cfL (ss : List Sec) (ls : List Lnk) (i : Nat) : Int := (ls[i]?.map (fulF ss)).getD 0
theorem cfL_get {ss : List Sec} {ls : List Lnk} {i : Nat} (h : i < ls.length) : cfL ss ls i = fulF ss ls[i] := by simp [cfL, h]
def MstE (ns : List Nod) (ls : List Lnk) (ss : List Sec) (nm : List UInt8) : Int := if treeN ns ls && catValid ss then (if pipE ls ss = 0 then (if 0 ≤ idxD (nodIs nm) ns then 0 else 9) else pipE ls ss) else 1
def MstV (ns : List Nod) (ls : List Lnk) (ss : List Sec) (nm : List UInt8) : Int := if MstE ns ls ss nm = 0 then msA ns.length (edgN ns ls) (cfL ss ls) (idxD (nodIs nm) ns).toNat 1099511627776 else 0
end Go.Gv

set_option linter.unusedSimpArgs false
namespace Go.Gv
theorem nod_at {ns : List Nod} {nm : List UInt8} {x : Nat} (h : idxD (nodIs nm) ns = x) : ∃ hx : x < ns.length, ns[x].name = nm := by
  have hx := idxD_lt (show 0 ≤ idxD (nodIs nm) ns by omega)
  rw [h] at hx
  simp at hx
  refine ⟨hx, ?_⟩
  unfold idxD at h
  cases e : ns.findIdx? (nodIs nm) with
  | none => rw [e] at h; simp at h
  | some i =>
    rw [e] at h
    simp at h
    have : i = x := by omega
    subst this
    obtain ⟨h1, h2, _⟩ := List.findIdx?_eq_some_iff_getElem.1 e
    simpa [nodIs] using h2
noncomputable def shrF (ns : List Nod) (ls : List Lnk) (q : List Sp) (x v : Nat) : Bool := upX ns ls x v && decide (0 < q[v]!.2)
def ShrE (ns : List Nod) (ls : List Lnk) (q : List Sp) (nm : List UInt8) : Int := if treeN ns ls = true then (if spsE q ns.length = 0 then (if 0 ≤ idxD (lnkIs nm) ls then 0 else 9) else spsE q ns.length) else 1
noncomputable def ShrV (ns : List Nod) (ls : List Lnk) (q : List Sp) (nm : List UInt8) : D := if ShrE ns ls q nm = 0 then .sl (strR (nmT ns (shrF ns ls q ((edgN ns ls)[(idxD (lnkIs nm) ls).toNat]!).1) ns.length)) else .nils
variable {C : CC} (hC : Closed prog C)
include hC
end Go.Gv

set_option linter.unusedSimpArgs false
namespace Go.Gv
theorem idxD_prop {α : Type} {p : α → Bool} {xs : List α} {i : Nat} (h : idxD p xs = i) : ∃ hi : i < xs.length, p xs[i] = true := by
  have hi := idxD_lt (show 0 ≤ idxD p xs by omega)
  rw [h] at hi
  simp at hi
  refine ⟨hi, ?_⟩
  unfold idxD at h
  cases e : xs.findIdx? p with
  | none => rw [e] at h; simp at h
  | some k =>
    rw [e] at h
    simp at h
    have : k = i := by omega
    subst this
    obtain ⟨h1, h2, _⟩ := List.findIdx?_eq_some_iff_getElem.1 e
    exact h2
variable {C : CC} (hC : Closed prog C)
include hC
theorem Node_c (b1 b2 : Bool) (ns : List Nod) (ls : List Lnk) (nm : List UInt8) (hcv : ∀ l ∈ ls, l.curve.length < 2 ^ 62) (hv : netOk ns ls = true) : C 482 [.agg [slx b1 (ns.map nodC), slx b2 (ls.map lnkC)], .str nm] (.tup [.int .i64 (if idxD (nodIs nm) ns < 0 then 0 else idxD (nodIs nm) ns), .int .i64 (if idxD (nodIs nm) ns < 0 then 9 else 0)]) [] := by
  have k0 := netOk_c hC b1 b2 ns ls hcv
  rw [hv] at k0
  have k1 := node_c hC b1 b2 ns ls nm (by have := (netOk_len hv).1; omega)
  have k2 := found_c hC [slx b1 (ns.map nodC), slx b2 (ls.map lnkC)] (idxD (nodIs nm) ns)
  refine start hC (nf := N482_network_Node) rfl rfl ?_
  simp [N482_network_Node]
  refine callW_of k0 (.inl rfl) ?_
  simp
  refine callW_of k1 (.inl rfl) ?_
  simp
  refine callW_of k2 (.inl rfl) ?_
  simp
  exact indW_of (by decide +kernel)
def srcIs (nm : List UInt8) (l : Lnk) : Bool := l.src == nm
theorem srcIs_c (nm : List UInt8) (l : Lnk) : C 483 [.agg (lnkC l), .ptr [.str nm]] (.bool (srcIs nm l)) [] := by
  refine start hC (nf := N483_steady_Most_1) rfl rfl ?_
  simp [N483_steady_Most_1, lnkC, srcIs]
  rw [Bool.eq_iff_iff]; simp
set_option maxHeartbeats 4000000 in
theorem Most_c (hS : SlC C) (b1 b2 b : Bool) (ns : List Nod) (ls : List Lnk) (ss : List Sec) (nm : List UInt8) (hls : ls.length < 2 ^ 62) (hcv : ∀ l ∈ ls, l.curve.length < 2 ^ 62) : C 443 [.agg [slx b1 (ns.map nodC), slx b2 (ls.map lnkC)], slx b (ss.map secC), .str nm] (.tup [.int .i64 (MstV ns ls ss nm), .int .i64 (MstE ns ls ss nm)]) [] := by
  have k1 := sTree_c hC hS b1 b2 ns ls hls hcv
  have k2 := catValid_c hC b ss
  refine start hC (nf := N443_steady_Most) rfl rfl ?_
  simp [N443_steady_Most]
  refine callW_of k1 (.inl rfl) ?_
  unfold MstV MstE
  cases ht : treeN ns ls
  · simp
  simp
  refine callW_of k2 (.inl rfl) ?_
  cases hv : catValid ss
  · simp
  simp
  have k3 := sections_c hC b1 b2 b ns ls ss hls hv
  refine callW_of k3 (.inl rfl) ?_
  by_cases hp : pipE ls ss = 0
  rotate_left
  · simp [hp]
  have ht2 := ht
  simp only [treeN, Bool.and_eq_true] at ht2
  obtain ⟨⟨hnv, _⟩, htf⟩ := ht2
  have hg := edgN_in hnv
  have hel := edgN_len ns ls
  obtain ⟨l1, l2⟩ := netOk_len hnv
  have k4 := Node_c hC b1 b2 ns ls nm hcv hnv
  have hpip := pipE_ok ht hp
  simp [hp]
  refine callW_of k4 (.inl rfl) ?_
  by_cases hx0 : 0 ≤ idxD (nodIs nm) ns
  rotate_left
  · simp [hx0, show idxD (nodIs nm) ns < 0 by omega, hp]
  obtain ⟨x, hx⟩ : ∃ x : Nat, idxD (nodIs nm) ns = x := ⟨(idxD (nodIs nm) ns).toNat, by omega⟩
  rw [hx]
  simp [show ¬ (x : Int) < 0 by omega, hp]
  refine loop_of (Nat × Int × List UInt8) (fun s => [(1, slx b (ss.map secC)), (3, .ptr [slx b1 (ns.map nodC), slx b2 (ls.map lnkC)]), (5, .adr (.r 10080) 0 0), (10080, .blk 1 [[.str s.2.2]]), (11, .int .i64 s.2.1)])
    (fun s => idxD (nodIs s.2.2) ns = s.1 ∧ msA ns.length (edgN ns ls) (cfL ss ls) s.1 s.2.1 = msA ns.length (edgN ns ls) (cfL ss ls) x 1099511627776 ∧ 0 ≤ s.2.1 ∧ s.2.1 ≤ 1099511627776)
    (fun s => ns.length - (ordF ns.length (edgN ns ls)).idxOf s.1) (x, 1099511627776, nm) ⟨hx, rfl, by simp, by simp⟩ (by simp) ?_
  clear hx k4
  rintro ⟨y, least, nn⟩ ⟨i1, i2, i3, i4⟩
  simp only at i1 i2 i3 i4
  obtain ⟨hy, hyn⟩ := nod_at i1
  have k5 := idxLnk_c hC (b := b2) (xs := ls) (g := 483) (cs := [.ptr [.str nn]]) (srcIs nn) hls (fun l _ => srcIs_c hC nn l)
  simp
  refine callW_of k5 (.inl rfl) ?_
  have hse : ∀ (i : Nat) (h : i < ls.length), ((edgN ns ls)[i]'(by rw [hel]; exact h)).1 = y ↔ ls[i].src = nn := fun i h => by
    have e1 := edgN_src hC hnv h
    constructor
    · intro e
      rw [e] at e1
      obtain ⟨_, h2⟩ := nod_at e1
      rw [← h2, hyn]
    · intro e
      rw [e, i1] at e1
      omega
  by_cases hi0 : idxD (srcIs nn) ls < 0
  · have hany : ls.any (srcIs nn) = false := by
      rw [← idxD_any]; simp; omega
    have hend := msA_end hg htf (cfL ss ls) hy (fun i h e => by
      have h' : i < ls.length := by rw [← hel]; exact h
      have := (hse i h').1 e
      rw [List.any_eq_false] at hany
      exact hany _ (List.getElem_mem h') (by simp [srcIs, this])) least
    rw [← i2, hend]
    simp [hi0, hp]
  · obtain ⟨i, hi⟩ : ∃ i : Nat, idxD (srcIs nn) ls = i := ⟨(idxD (srcIs nn) ls).toNat, by omega⟩
    rw [hi]
    obtain ⟨hil, hpi⟩ := idxD_prop hi
    have hie : i < (edgN ns ls).length := by rw [hel]; exact hil
    have hsrc : (edgN ns ls)[i].1 = y := (hse i hil).2 (by simpa [srcIs] using hpi)
    have hstep := msA_step hg htf (cfL ss ls) hy hie hsrc least
    rw [cfL_get hil] at hstep
    have hrank := ord_rank hg (by simp only [treeF, Bool.and_eq_true, decide_eq_true_eq] at htf; exact htf.2) (u := (edgN ns ls)[i].1) (v := (edgN ns ls)[i].2) (List.getElem_mem hie)
    rw [hsrc] at hrank
    have hdst : idxD (nodIs ls[i].dst) ns = ((edgN ns ls)[i].2 : Nat) := by
      obtain ⟨_, _, g1, g2⟩ := netOk_lnk hnv hil
      simp only [edgN, List.getElem_map]
      omega
    have hpo := hpip _ (List.getElem_mem hil)
    have k6 := full_c hC b ss ls[i] hv hpo
    obtain ⟨c, hc, hce⟩ := fulF_rng hv hpo
    rw [hce] at hstep k6
    simp only [lnkC] at k6
    simp [show ¬ (i : Int) < 0 by omega, hil, lnkC]
    refine callW_of k6 (.inl rfl) ?_
    simp [hil, lnkC]
    have e1 : (if (c : Int) < least then (c : Int) else least) = if least ≤ (c : Int) then least else (c : Int) := by split <;> split <;> omega
    refine ⟨(edgN ns ls)[i].2, _, _, ⟨hdst, ?_, ?_, ?_⟩, by omega, rfl, rfl⟩
    · rw [e1, ← hstep]; exact i2
    · split <;> omega
    · split <;> omega
set_option maxHeartbeats 4000000 in
theorem rMost_c (b1 b2 b : Bool) (ns : List Nod) (ls : List Lnk) (ss : List Sec) (nm : List UInt8) (hls : ls.length < 2 ^ 62) (hss : ss.length < 2 ^ 62) : C 445 [.agg [slx b1 (ns.map nodC), slx b2 (ls.map lnkC)], slx b (ss.map secC), .str nm] (.tup [.int .i64 (MstV ns ls ss nm), .int .i64 (MstE ns ls ss nm)]) [] := by
  have k1 := rTree_c hC b1 b2 ns ls
  have k2 := rcat_c hC b ss
  refine start hC (nf := N445_ref30_Most) rfl rfl ?_
  simp [N445_ref30_Most]
  refine callW_of k1 (.inl rfl) ?_
  unfold MstV MstE
  cases ht : treeN ns ls
  · simp
  simp
  refine callW_of k2 (.inl rfl) ?_
  cases hv : catValid ss
  · simp
  simp
  have k3 := rPipes_c hC b1 b2 b ns ls ss hls hss
  refine callW_of k3 (.inl rfl) ?_
  by_cases hp : pipE ls ss = 0
  rotate_left
  · simp [hp]
  have ht2 := ht
  simp only [treeN, Bool.and_eq_true] at ht2
  obtain ⟨⟨hnv, _⟩, htf⟩ := ht2
  have hg := edgN_in hnv
  have hel := edgN_len ns ls
  obtain ⟨l1, l2⟩ := netOk_len hnv
  have k4 := rNode_c hC b1 b2 ns ls nm (by omega)
  have hpip := pipE_ok ht hp
  simp [hp]
  refine callW_of k4 (.inl rfl) ?_
  by_cases hx0 : 0 ≤ idxD (nodIs nm) ns
  rotate_left
  · simp [hx0, show idxD (nodIs nm) ns < 0 by omega, hp]
  obtain ⟨x, hx⟩ : ∃ x : Nat, idxD (nodIs nm) ns = x := ⟨(idxD (nodIs nm) ns).toNat, by omega⟩
  rw [hx]
  obtain ⟨hxl, _⟩ := nod_at hx
  simp [show ¬ (x : Int) < 0 by omega, hp]
  obtain ⟨P, hP⟩ : ∃ P : Nat → Bool, P = fun i => upB ns.length (edgN ns ls) x (edgN ns ls)[i]!.1 := ⟨_, rfl⟩
  have hmm : msA ns.length (edgN ns ls) (cfL ss ls) x 1099511627776 = mnP P (cfL ss ls) 1099511627776 ls.length := by rw [hP, msA, hel]
  rw [hmm]
  refine loop_of Nat (fun i => [(1, slx b (ss.map secC)), (3, .ptr [slx b1 (ns.map nodC), slx b2 (ls.map lnkC)]), (9, .int .i64 x), (10, .int .i64 (mnP P (cfL ss ls) 1099511627776 i)), (11, .int .i64 i)]) (fun i => i ≤ ls.length) (fun i => ls.length - i) 0 (by simp) (by simp [mnP]) ?_
  rintro i hi
  simp
  refine brB_of (fun h => ?_) (fun h => ?_) <;> simp [h] <;> simp at h
  · have hw : IntKind.wrap .i64 ((i : Int) + 1) = ((i + 1 : Nat) : Int) := wrap_i64 (by omega) (by omega)
    have hpo := hpip _ (List.getElem_mem h)
    have k6 := rFull_c hC b ss ls[i] hv hpo
    have k7 := rUpper_c hC b1 b2 ns ls i hnv h
    have hie : i < (edgN ns ls).length := by rw [hel]; exact h
    have hPi : P i = upX ns ls ((edgN ns ls)[i]'hie).1 x := by
      rw [hP]
      simp only [getElem!_pos (edgN ns ls) i hie]
      exact (upX_eq hg htf hxl).symm
    have hst : mnP P (cfL ss ls) 1099511627776 (i + 1) = if P i = true ∧ cfL ss ls i < mnP P (cfL ss ls) 1099511627776 i then cfL ss ls i else mnP P (cfL ss ls) 1099511627776 i := rfl
    rw [cfL_get h] at hst
    generalize mnP P (cfL ss ls) 1099511627776 i = m at *
    generalize fulF ss ls[i] = c at *
    simp only [lnkC] at k6
    simp [h, lnkC]
    refine callW_of k6 (.inl rfl) ?_
    simp
    refine callW_of k7 (.inr rfl) ?_
    rw [hPi] at hst
    generalize upX ns ls ((edgN ns ls)[i]'hie).1 = f at *
    simp [boolA_len, hxl, idxW_some (boolA_get f hxl), boolA_get f hxl]
    by_cases c1 : f x = true
    · by_cases c2 : c < m
      · rw [if_pos ⟨c1, c2⟩] at hst
        simp [c1, c2, hw]
        exact ⟨i + 1, by omega, by omega, by rw [hst], by omega⟩
      · rw [if_neg (fun h => c2 h.2)] at hst
        simp [c1, c2, hw]
        exact ⟨i + 1, by omega, by omega, by rw [hst], by omega⟩
    · rw [if_neg (fun h => c1 h.1)] at hst
      have c1' : f x = false := by simpa using c1
      simp [c1', hw]
      exact ⟨i + 1, by omega, by omega, by rw [hst], by omega⟩
  · have ei : i = ls.length := by omega
    subst ei
    simp [hp]
set_option maxHeartbeats 2000000 in
theorem rOverloaded_c (b1 b2 b b' : Bool) (ns : List Nod) (ls : List Lnk) (ss : List Sec) (q : List Sp) (hls : ls.length < 2 ^ 62) (hss : ss.length < 2 ^ 62) (hq : q.length < 2 ^ 62) : C 444 [.agg [slx b1 (ns.map nodC), slx b2 (ls.map lnkC)], slx b (ss.map secC), slx b' (q.map knD)] (.tup [OvV (·.1) ns ls ss q, OvV (·.2) ns ls ss q, .int .i64 (OvE ns ls ss q)]) [] := by
  have k0 := rGiven_c hC b1 b2 b b' true ns ls ss q hls hss hq
  simp only [if_true] at k0
  refine start hC (nf := N444_ref30_Overloaded) rfl rfl ?_
  simp [N444_ref30_Overloaded]
  refine callW_of k0 (.inl rfl) ?_
  unfold OvV OvE
  by_cases hg : givE ns ls ss q ns.length = 0
  rotate_left
  · simp [hg]
  obtain ⟨ht, hv, hsp, hpe⟩ := givE_ok hg
  have hpip := pipE_ok ht hpe
  obtain ⟨hql, hqr⟩ := spsE_get hsp
  have hl4 : ls.length ≤ 400 := by
    simp only [treeN, Bool.and_eq_true] at ht
    exact (netOk_len ht.1.1).2
  have k1 := rAll_c hC b1 b2 b' ns ls q ht hql hqr
  have hfl : (flowsF ns.length (edgN ns ls) q).length = ls.length := by simp [flowsF, edgN_len]
  unfold flowsE
  simp [hg]
  refine callW_of k1 (.inr rfl) ?_
  generalize flowsF ns.length (edgN ns ls) q = fl at *
  cases hb : bigF fl
  rotate_left
  · simp [hg]
  simp [hg]
  refine loop_of Nat (fun i => [(1, slx b (ss.map secC)), (3, .ptr [slx b1 (ns.map nodC), slx b2 (ls.map lnkC)]), (10, .sl (fl.map knD)), (12, .ref (.r 10192) 0 (ovT ss (·.1) ls fl i).length), (10192, .blk 1 (strR (ovT ss (·.1) ls fl i))), (13, .ref (.r 10208) 0 (ovT ss (·.2) ls fl i).length), (10208, .blk 1 (strR (ovT ss (·.2) ls fl i))), (14, .int .i64 i)]) (fun i => i ≤ ls.length) (fun i => ls.length - i) 0 (by simp) (by simp [ovT, strR]) ?_
  rintro i hi
  simp
  refine brB_of (fun h => ?_) (fun h => ?_) <;> simp [h] <;> simp at h
  · have hw : IntKind.wrap .i64 ((i : Int) + 1) = ((i + 1 : Nat) : Int) := wrap_i64 (by omega) (by omega)
    have hif : i < fl.length := by omega
    have hp := hpip _ (List.getElem_mem h)
    have k2 := rFull_c hC b ss ls[i] hv hp
    have s1 := ovT_succ (ss := ss) (f := (·.1)) h hif
    have s2 := ovT_succ (ss := ss) (f := (·.2)) h hif
    have n1 := ovT_len ss (·.1) ls fl i
    have n2 := ovT_len ss (·.2) ls fl i
    simp only [lnkC] at k2
    simp [h, lnkC]
    refine callW_of k2 (.inl rfl) ?_
    simp [hif, knD]
    generalize fulF ss ls[i] = c at *
    generalize hT1 : ovT ss (·.1) ls fl i = T1 at *
    generalize hT2 : ovT ss (·.2) ls fl i = T2 at *
    have t1 : (strR T1).take T1.length = strR T1 := List.take_of_length_le (by rw [strR_len]; exact Nat.le_refl _)
    have t2 : (strR T2).take T2.length = strR T2 := List.take_of_length_le (by rw [strR_len]; exact Nat.le_refl _)
    refine brB_of (fun a => ?_) (fun a => ?_) <;> simp at a <;> simp [a, h, hif, knD, lnkC]
    · refine ⟨by simp [strR_len], by omega, ?_⟩
      refine brB_of (fun g => ?_) (fun g => ?_) <;> simp at g <;> simp [g, h, hif, knD, lnkC]
      · refine ⟨by simp [strR_len], by omega, ?_⟩
        simp [hw]
        refine ⟨i + 1, by omega, by omega, ?_⟩
        rw [s1, s2, if_pos a, if_pos g, t1, t2, strR_app, strR_app]
        simp
      · simp [hw]
        refine ⟨i + 1, by omega, by omega, ?_⟩
        rw [s1, s2, if_pos a, if_neg (by omega), t1, strR_app]
        simp
    · refine brB_of (fun g => ?_) (fun g => ?_) <;> simp at g <;> simp [g, h, hif, knD, lnkC]
      · refine ⟨by simp [strR_len], by omega, ?_⟩
        simp [hw]
        refine ⟨i + 1, by omega, by omega, ?_⟩
        rw [s1, s2, if_neg (by omega), if_pos g, t2, strR_app]
        simp
      · simp [hw]
        refine ⟨i + 1, by omega, by omega, ?_⟩
        rw [s1, s2, if_neg (by omega), if_neg (by omega)]
        simp
  · have ek : i = ls.length := by omega
    subst ek
    have hgi : ¬ givE ns ls ss q ns.length = 0 → givE ns ls ss q ns.length = 0 := fun _ => hg
    rw [if_pos hgi, if_pos hgi, strR_V, strR_V, List.take_of_length_le (by rw [strR_len]; exact Nat.le_refl _), List.take_of_length_le (by rw [strR_len]; exact Nat.le_refl _)]
    exact ⟨⟨by simp [strR_len], by simp [strR_len]⟩, rfl, rfl, hgi⟩
theorem SteadyOver_c (hS : SlC C) (b1 b2 : Bool) (ns : List Nod) (ls : List Lnk) (h1 : ns.length < 2 ^ 62) (h2 : ls.length < 2 ^ 62) (hcv : ∀ l ∈ ls, l.curve.length < 2 ^ 62) (b : Bool) (ss : List Sec) (h3 : ss.length < 2 ^ 62) (b' : Bool) (q : List Sp) (h4 : q.length < 2 ^ 62) (nm : List UInt8) :
    C 422 [.agg [slx b1 (ns.map nodC), slx b2 (ls.map lnkC)], slx b (ss.map secC), slx b' (q.map knD), .str nm] (.bool true) [] := by
  have k0 := awake30_c hC hS
  have k1 := large30_c hC b1 b2 b b' ns ls ss q h1 h2 h3
  have k2 := Overloaded_c hC hS b1 b2 b b' ns ls ss q h2 h4 hcv
  have k3 := Most_c hC hS b1 b2 b ns ls ss nm h2 hcv
  have k4 := rOverloaded_c hC b1 b2 b b' ns ls ss q h2 h3 h4
  have k5 := rMost_c hC b1 b2 b ns ls ss nm h2 h3
  have d : ∀ f : Sp → Int, ∃ (c : Bool) (l : List (List UInt8)), OvV f ns ls ss q = slx c (strR l) ∧ l.length < 2 ^ 62 := fun f => by
    unfold OvV
    split
    · exact ⟨false, _, rfl, by have := ovT_len ss f ls (flowsF ns.length (edgN ns ls) q) ls.length; omega⟩
    · exact ⟨true, [], rfl, by simp⟩
  obtain ⟨c1, f1, e1, g1⟩ := d (·.1)
  obtain ⟨c2, f2, e2, g2⟩ := d (·.2)
  rw [e1, e2] at k2 k4
  have q1 := eqStr_c hC c1 c1 f1 f1 g1 g1
  have q2 := eqStr_c hC c2 c2 f2 f2 g2 g2
  refine start hC (nf := N422_law30_SteadyOver) rfl rfl ?_
  simp [N422_law30_SteadyOver]
  refine callW_of k0 (.inl rfl) ?_
  simp
  refine callW_of k1 (.inl rfl) ?_
  cases hla : large30 ns ls ss q.length
  rotate_left
  · simp
  simp
  by_cases hnl : (100 : Int) < nm.length
  · simp [hnl]
  simp [hnl]
  refine callW_of k2 (.inr rfl) ?_
  simp
  refine callW_of k3 (.inl rfl) ?_
  simp
  refine callW_of k4 (.inr rfl) ?_
  simp
  refine callW_of k5 (.inl rfl) ?_
  simp
  refine callW_of q1 (.inl rfl) ?_
  simp
  refine callW_of q2 (.inl rfl) ?_
  simp
end Go.Gv
