/-
  Texts of the proof: Q12, Q13.
-/
import Derived.Test.YtcaifeolkhchoaaGreatX7
set_option linter.all false
set_option linter.unusedSimpArgs false
namespace Go.Gv
def wS (s : Sp) : Sp := (IntKind.wrap .i64 s.1, IntKind.wrap .i64 s.2)
def adS (a b : Sp) : Sp := (a.1 + b.1, a.2 + b.2)
theorem wrap_add (a b : Int) : IntKind.wrap .i64 (IntKind.wrap .i64 a + b) = IntKind.wrap .i64 (a + b) := by
  simp only [IntKind.wrap_i64]
  omega
theorem spA_w (a b : Sp) : spA (wS a) b = wS (adS a b) := by
  simp only [spA, wS, adS, wrap_add]
/-- The sum of what the edges carry that P takes, of the first k ones. -/
def sumT (P : Nat → Bool) (o : Nat → Sp) : Nat → Sp
  | 0 => (0, 0)
  | k + 1 => if P k then adS (sumT P o k) (o k) else sumT P o k
theorem sumT_congr {P P' : Nat → Bool} {o o' : Nat → Sp} : ∀ {K : Nat}, (∀ k, k < K → P k = P' k ∧ (P k = true → o k = o' k)) → sumT P o K = sumT P' o' K
  | 0, _ => rfl
  | K + 1, h => by
    obtain ⟨h1, h2⟩ := h K (by omega)
    have ih := sumT_congr (K := K) (fun k hk => h k (by omega))
    unfold sumT
    rw [ih, ← h1]
    cases hP : P K
    · rfl
    · simp only [if_true]; rw [h2 hP]
theorem adS_zero (a : Sp) : adS a (0, 0) = a := by simp [adS]
theorem adS_right (a b c : Sp) : adS (adS a b) c = adS (adS a c) b := by simp only [adS]; congr 1 <;> omega
theorem adS_assoc (a b c : Sp) : adS (adS a b) c = adS a (adS b c) := by simp only [adS]; congr 1 <;> omega
theorem sumT_upd {P P' : Nat → Bool} {o o' : Nat → Sp} {k0 : Nat} (h : ∀ k, k ≠ k0 → P' k = P k ∧ o' k = o k) (h0 : P k0 = false) : ∀ K, sumT P' o' K = adS (sumT P o K) (if k0 < K ∧ P' k0 = true then o' k0 else (0, 0))
  | 0 => by simp [sumT, adS]
  | K + 1 => by
    have ih := sumT_upd h h0 K
    unfold sumT
    by_cases e : K = k0
    · subst e
      have e1 : ¬ (K < K ∧ P' K = true) := fun h => Nat.lt_irrefl _ h.1
      rw [if_neg e1, adS_zero] at ih
      rw [h0, ih]
      cases hP : P' K
      · simp [adS]
      · simp
    · obtain ⟨h1, h2⟩ := h K e
      rw [h1, h2, ih]
      have e2 : (k0 < K + 1 ∧ P' k0 = true) ↔ (k0 < K ∧ P' k0 = true) := ⟨fun x => ⟨by omega, x.2⟩, fun x => ⟨by omega, x.2⟩⟩
      by_cases c : k0 < K ∧ P' k0 = true
      · rw [if_pos c, if_pos (e2.2 c)]
        cases P K
        · rfl
        · simp only [if_true]; exact adS_right _ _ _
      · rw [if_neg c, if_neg (fun x => c (e2.1 x)), adS_zero, adS_zero]
/-- A round at node i. -/
theorem flI_none {es : List Edg} {i : Nat} {s : FSt} : ∀ {K : Nat}, K ≤ es.length → (∀ k, (h : k < es.length) → k < K → es[k].1 ≠ i) → flI es i s K = s
  | 0, _, _ => rfl
  | K + 1, hK, h => by
    have hk : K < es.length := by omega
    unfold flI
    rw [flI_none (by omega) (fun k h1 h2 => h k h1 (by omega)), getElem!_pos es K hk, fStep, if_neg (h K hk (by omega))]
theorem flI_one {es : List Edg} {i : Nat} {s : FSt} {k0 : Nat} (hk0 : k0 < es.length) (hi : es[k0].1 = i) (hu : ∀ k, (h : k < es.length) → es[k].1 = i → k = k0) : ∀ {K : Nat}, K ≤ es.length → k0 < K → flI es i s K = fStep i k0 es[k0] s
  | 0, _, h => by omega
  | K + 1, hK, h => by
    have hk : K < es.length := by omega
    unfold flI
    rw [getElem!_pos es K hk]
    by_cases e : K = k0
    · subst e
      rw [flI_none (by omega) (fun k h1 h2 e => by have := hu k h1 e; omega)]
    · rw [flI_one hk0 hi hu (by omega) (by omega), fStep, if_neg (fun e2 => e (hu K hk e2))]
theorem ordN_pre (n : Nat) (es : List Edg) (m : Nat) : ∀ k, ordN n es m <+: ordN n es (m + k)
  | 0 => List.prefix_refl _
  | k + 1 => by
    refine (ordN_pre n es m k).trans ?_
    show _ <+: stepO n es (ordN n es (m + k))
    unfold stepO
    split
    · exact List.prefix_refl _
    · exact List.prefix_append _ _
theorem ordN_len1 (n : Nat) (es : List Edg) : ∀ m k, (ordN n es (m + k)).length ≤ (ordN n es m).length + k
  | m, 0 => by simp
  | m, k + 1 => by
    have ih := ordN_len1 n es m k
    show (stepO n es (ordN n es (m + k))).length ≤ _
    unfold stepO
    split
    · omega
    · simp; omega
theorem ordN_full {n : Nat} {es : List Edg} (h : (ordF n es).length = n) {m : Nat} (hm : m ≤ n) : (ordF n es).take m = ordN n es m ∧ (ordN n es m).length = m := by
  have h1 := ordN_len1 n es 0 m
  have h2 := ordN_len1 n es m (n - m)
  have h3 := ordN_pre n es m (n - m)
  rw [show m + (n - m) = n by omega] at h2 h3
  simp only [Nat.zero_add] at h1
  have h4 : (ordN n es 0).length = 0 := rfl
  have hl : (ordN n es m).length = m := by
    have h5 : (ordN n es n).length = n := h
    omega
  refine ⟨?_, hl⟩
  obtain ⟨t, ht⟩ := h3
  show (ordN n es n).take m = _
  rw [← ht, List.take_append_of_le_length (by omega), List.take_of_length_le (by omega)]
/-- Each edge is the only one from its node. -/
theorem src_uniq {es : List Edg} (h : (es.map (·.1)).Nodup) {k k' : Nat} (hk : k < es.length) (hk' : k' < es.length) (e : es[k].1 = es[k'].1) : k = k' := by
  have h1 : k < (es.map (·.1)).length := by simpa using hk
  have h2 : k' < (es.map (·.1)).length := by simpa using hk'
  have := (List.getElem_inj (xs := es.map (·.1)) (i := k) (j := k') (h₀ := h1) (h₁ := h2) h).1 (by simpa using e)
  exact this
def inT (es : List Edg) (v : Nat) (done : List Nat) (k : Nat) : Bool := decide (es[k]!.2 = v) && done.contains es[k]!.1
theorem flO_inv {n : Nat} {es : List Edg} (hg : inG n es) (ht : treeF n es = true) {l : List Sp} (hl : ∀ v, v < n → wS l[v]! = l[v]!) : ∀ m, m ≤ n →
    (∀ k, (h : k < es.length) → es[k].1 ∈ (ordF n es).take m → (flO es (ordF n es) (flS l) m).2 k = (flO es (ordF n es) (flS l) m).1 es[k].1) ∧
    (∀ v, v < n → (flO es (ordF n es) (flS l) m).1 v = wS (adS l[v]! (sumT (inT es v ((ordF n es).take m)) (flO es (ordF n es) (flS l) m).2 es.length)))
  | 0, _ => by
    refine ⟨fun k h hk => by simp at hk, fun v hv => ?_⟩
    have : sumT (inT es v ((ordF n es).take 0)) (flS l).2 es.length = sumT (fun _ => false) (flS l).2 es.length := sumT_congr fun k hk => ⟨by simp [inT], fun h => by simp [inT] at h⟩
    have hz : ∀ K, sumT (fun _ => false) (flS l).2 K = (0, 0) := fun K => by
      induction K with
      | zero => rfl
      | succ K ih => unfold sumT; simpa using ih
    show l[v]! = wS (adS l[v]! (sumT (inT es v ((ordF n es).take 0)) (flS l).2 es.length))
    rw [this, hz, adS_zero, hl v hv]
  | m + 1, hm => by
    simp only [treeF, Bool.and_eq_true, decide_eq_true_eq] at ht
    obtain ⟨hnd, hlen⟩ := ht
    obtain ⟨ih1, ih2⟩ := flO_inv hg (by simp [treeF, hnd, hlen]) hl m (by omega)
    obtain ⟨t1, t2⟩ := ordN_full hlen (show m ≤ n by omega)
    obtain ⟨t3, t4⟩ := ordN_full hlen hm
    have hml : m < (ordF n es).length := by omega
    have hI := ordN_I n es m
    have hI' := ordN_I n es (m + 1)
    have htk : (ordF n es).take (m + 1) = (ordF n es).take m ++ [(ordF n es)[m]] := List.take_succ_eq_append_getElem hml
    obtain ⟨i, hi⟩ : ∃ i, i = (ordF n es)[m] := ⟨_, rfl⟩
    rw [← hi] at htk
    have hin : i ∈ ordN n es (m + 1) := by rw [← t3, htk]; simp
    have hni : i ∉ (ordF n es).take m := by
      have := hI'.nd
      rw [← t3, htk, List.nodup_append] at this
      exact fun h => this.2.2 i h i (by simp) rfl
    have hcl : ∀ u v, u ∈ (ordF n es).take m → (v, u) ∈ es → v ∈ (ordF n es).take m := fun u v hu he => by rw [t1] at hu ⊢; exact hI.pre u hu v he
    have hself : (i, i) ∉ es := by
      intro he
      have : rdyL n es (ordN n es m) ≠ [] := by
        intro e
        have := ordN_fix e 1
        rw [this] at t4
        omega
      cases hr : rdyL n es (ordN n es m) with
      | nil => exact this hr
      | cons j r =>
        have e1 := ordN_succ hr
        have e2 : j = i := by
          have h5 : ordN n es m ++ [j] = ordN n es m ++ [i] := by rw [← e1, ← t3, htk, t1]
          simpa using h5
        have hj : j ∈ rdyL n es (ordN n es m) := by rw [hr]; simp
        rw [e2] at hj
        obtain ⟨_, h6, h7⟩ := mem_rdyL.1 hj
        exact h6 (h7 i he)
    obtain ⟨s, hs⟩ : ∃ s, s = flO es (ordF n es) (flS l) m := ⟨_, rfl⟩
    have efl : flO es (ordF n es) (flS l) (m + 1) = flI es i s es.length := by rw [flO, getElem!_pos _ m hml, ← hi, ← hs]
    rw [efl]
    rw [← hs] at ih1 ih2
    by_cases hx : ∃ k, ∃ h : k < es.length, es[k].1 = i
    · obtain ⟨k0, hk0, e0⟩ := hx
      have hu : ∀ k, (h : k < es.length) → es[k].1 = i → k = k0 := fun k h e => src_uniq hnd h hk0 (e.trans e0.symm)
      rw [flI_one hk0 e0 hu (Nat.le_refl _) hk0, fStep, if_pos e0]
      have het : (i, es[k0].2) ∈ es := by rw [← e0]; exact List.getElem_mem hk0
      have hti : es[k0].2 ≠ i := fun e => hself (by rw [e] at het; exact het)
      have htm : es[k0].2 ∉ (ordF n es).take m := fun h => hni (hcl _ _ h het)
      refine ⟨fun k h hk => ?_, fun v hv => ?_⟩
      · rw [htk] at hk
        rcases List.mem_append.1 hk with hk | hk
        · have hne : k ≠ k0 := by rintro rfl; exact hni (e0 ▸ hk)
          have hnt : es[k].1 ≠ es[k0].2 := fun e => htm (e ▸ hk)
          simp only [if_neg hne, if_neg hnt]
          exact ih1 k h hk
        · simp only [List.mem_singleton] at hk
          have : k = k0 := hu k h hk
          subst this
          simp only [if_true]
          rw [if_neg (by rw [hk]; exact Ne.symm hti), hk]
      · have hsum : sumT (inT es v ((ordF n es).take (m + 1))) (fun q => if q = k0 then s.1 i else s.2 q) es.length = adS (sumT (inT es v ((ordF n es).take m)) s.2 es.length) (if es[k0].2 = v then s.1 i else (0, 0)) := by
          have eK : sumT (fun k => decide (k < es.length) && inT es v ((ordF n es).take (m + 1)) k) (fun q => if q = k0 then s.1 i else s.2 q) es.length = sumT (inT es v ((ordF n es).take (m + 1))) (fun q => if q = k0 then s.1 i else s.2 q) es.length := sumT_congr fun k hk => ⟨by simp [hk], fun _ => rfl⟩
          have eK2 : sumT (fun k => decide (k < es.length) && inT es v ((ordF n es).take m) k) s.2 es.length = sumT (inT es v ((ordF n es).take m)) s.2 es.length := sumT_congr fun k hk => ⟨by simp [hk], fun _ => rfl⟩
          rw [← eK, ← eK2, sumT_upd (P := fun k => decide (k < es.length) && inT es v ((ordF n es).take m) k) (o := s.2) (k0 := k0) (fun k hk => ⟨?_, by simp [hk]⟩) (by simp [inT, getElem!_pos es k0 hk0, e0, hni])]
          · congr 1
            simp only [if_true]
            by_cases c : es[k0].2 = v
            · rw [if_pos c, if_pos ⟨hk0, by simp [hk0, inT, getElem!_pos es k0 hk0, e0, c, htk]⟩]
            · rw [if_neg c, if_neg (fun h => by simp [inT, getElem!_pos es k0 hk0, c] at h)]
          · by_cases hkl : k < es.length
            · have hne : es[k].1 ≠ i := fun e => hk (hu k hkl e)
              simp [hkl, inT, htk, hne]
            · simp [hkl]
        rw [hsum]
        by_cases c : v = es[k0].2
        · simp only [if_pos c, if_pos c.symm]
          rw [← c, ih2 v hv, spA_w, adS_assoc]
        · simp only [if_neg c, if_neg (Ne.symm c), adS_zero]
          exact ih2 v hv
    · have hno : ∀ k, (h : k < es.length) → es[k].1 ≠ i := fun k h e => hx ⟨k, h, e⟩
      rw [flI_none (Nat.le_refl _) (fun k h _ => hno k h)]
      refine ⟨fun k h hk => ?_, fun v hv => ?_⟩
      · rw [htk] at hk
        rcases List.mem_append.1 hk with hk | hk
        · exact ih1 k h hk
        · exact absurd (by simpa using hk) (hno k h)
      · rw [ih2 v hv]
        congr 2
        refine sumT_congr fun k hk => ⟨?_, fun _ => rfl⟩
        simp [inT, getElem!_pos es k hk, htk, hno k hk]
def balS (es : List Edg) (fl : List Sp) (s0 : Sp) (v : Nat) : Nat → Sp
  | 0 => s0
  | k + 1 => if es[k]!.2 = v then spA (balS es fl s0 v k) fl[k]! else balS es fl s0 v k
theorem balS_eq (es : List Edg) (fl : List Sp) (s0 : Sp) (h0 : wS s0 = s0) (v : Nat) : ∀ K, balS es fl s0 v K = wS (adS s0 (sumT (fun k => decide (es[k]!.2 = v)) (fun k => fl[k]!) K))
  | 0 => by simp [balS, sumT, adS_zero, h0]
  | K + 1 => by
    have ih := balS_eq es fl s0 h0 v K
    unfold balS sumT
    by_cases c : es[K]!.2 = v
    · rw [if_pos c, if_pos (by simpa using c), ih, spA_w, adS_assoc]
    · rw [if_neg c, if_neg (by simpa using c), ih]
/-- What flows in flows out. -/
theorem bal_law {n : Nat} {es : List Edg} (hg : inG n es) (ht : treeF n es = true) {l : List Sp} (hl : ∀ v, v < n → wS l[v]! = l[v]!) {i : Nat} (hi : i < es.length) : (flowsF n es l)[i]! = balS es (flowsF n es l) l[es[i].1]! es[i].1 es.length := by
  have ht2 := ht
  simp only [treeF, Bool.and_eq_true, decide_eq_true_eq] at ht2
  obtain ⟨h1, h2⟩ := flO_inv hg ht hl n (Nat.le_refl _)
  have hv := (hg _ (List.getElem_mem hi)).1
  have hfull : (ordF n es).take n = ordF n es := List.take_of_length_le (by omega)
  have hI := ordN_I n es n
  have hmem : ∀ v, v < n → v ∈ ordF n es := by
    intro v hv
    apply Classical.byContradiction
    intro hn
    have hnd : (v :: ordF n es).Nodup := List.nodup_cons.2 ⟨hn, hI.nd⟩
    have hsub : (v :: ordF n es) ⊆ List.range n := by
      intro u hu
      rcases List.mem_cons.1 hu with rfl | hu
      · simpa using hv
      · simpa using hI.lt u hu
    have := List.Nodup.length_le_of_subset hnd hsub
    simp at this
    omega
  have eF : ∀ k, k < es.length → (flowsF n es l)[k]! = (flO es (ordF n es) (flS l) n).2 k := fun k hk => by
    unfold flowsF
    rw [ht2.2, getElem!_pos _ k (by simpa using hk)]
    simp
  rw [balS_eq _ _ _ (hl _ hv), eF i hi, h1 i hi (by rw [hfull]; exact hmem _ hv), h2 _ hv]
  congr 2
  refine sumT_congr fun k hk => ⟨?_, fun _ => (eF k hk).symm⟩
  have := hmem _ (hg _ (List.getElem_mem hk)).1
  simp [inT, getElem!_pos es k hk, hfull, this]
end Go.Gv

set_option linter.unusedSimpArgs false
namespace Go.Gv
theorem flowsF_len (n : Nat) (es : List Edg) (l : List Sp) : (flowsF n es l).length = es.length := by simp [flowsF]
theorem spsE_ok {l : List Sp} {n : Int} (h : spsE l n = 0) : ∀ s ∈ l, 0 ≤ s.1 ∧ s.1 ≤ s.2 ∧ s.2 ≤ 1099511627776 := by
  unfold spsE at h
  split at h
  · cases h
  · rename_i h1
    split at h
    · split at h
      · cases h
      · rename_i h2
        intro s hs
        simp only [Bool.not_eq_true, List.any_eq_false] at h1 h2
        have a := h1 s hs
        have b := h2 s hs
        simp only [spOk, spRg, Bool.not_eq_true', Bool.not_eq_false', Bool.and_eq_true, decide_eq_true_eq, Bool.or_eq_true, not_or] at a b
        simp at a b
        omega
    · cases h
theorem wS_ok {s : Sp} (h : 0 ≤ s.1 ∧ s.1 ≤ s.2 ∧ s.2 ≤ 1099511627776) : wS s = s := by
  unfold wS
  rw [wrap_i64 rfl (by omega), wrap_i64 rfl (by omega)]
theorem FlowsE_ok {ns : List Nod} {ls : List Lnk} {l : List Sp} (h : FlowsE ns ls l = 0) : treeN ns ls = true ∧ spsE l ns.length = 0 ∧ flowsE ns.length (edgN ns ls) l = 0 := by
  unfold FlowsE at h
  split at h
  · rename_i h1
    split at h
    · rename_i h2
      exact ⟨h1, h2, h⟩
    · rename_i h2
      exact absurd h h2
  · cases h
variable {C : CC} (hC : Closed prog C)
include hC
set_option maxHeartbeats 2000000 in
theorem SteadyBalances_c (hS : SlC C) (b1 b2 : Bool) (ns : List Nod) (ls : List Lnk) (h1 : ns.length < 2 ^ 62) (h2 : ls.length < 2 ^ 62) (hcv : ∀ l ∈ ls, l.curve.length < 2 ^ 62) (b : Bool) (q : List Sp) (h3 : q.length < 2 ^ 62) :
    C 418 [.agg [slx b1 (ns.map nodC), slx b2 (ls.map lnkC)], slx b (q.map knD)] (.bool true) [] := by
  have k0 := awake30_c hC hS
  have k1 := large30_c hC b1 b2 true b ns ls [] q h1 h2 (by simp)
  have k2 := rTree_c hC b1 b2 ns ls
  have k3 := Flows_c hC hS b1 b2 b ns ls q h2 h3 hcv
  have e0 : slx true ([] : List (List D)) = .nils := rfl
  simp only [List.map_nil, e0] at k1
  refine start hC (nf := N418_law30_SteadyBalances) rfl rfl ?_
  simp [N418_law30_SteadyBalances]
  refine callW_of k0 (.inl rfl) ?_
  simp
  refine callW_of k1 (.inl rfl) ?_
  cases hla : large30 ns ls [] q.length
  rotate_left
  · simp
  simp
  refine callW_of k2 (.inl rfl) ?_
  cases ht : treeN ns ls
  · simp
  simp
  refine callW_of k3 (.inr rfl) ?_
  unfold FlowsV
  by_cases hE : FlowsE ns ls q = 0
  rotate_left
  · rw [if_neg hE]
    simp [hE]
  obtain ⟨_, hsp, hfe⟩ := FlowsE_ok hE
  have ht2 := ht
  simp only [treeN, Bool.and_eq_true] at ht2
  obtain ⟨⟨hv, _⟩, htf⟩ := ht2
  obtain ⟨l1, l2⟩ := netOk_len hv
  have k4 := rEdges_c hC b1 b2 ns ls hv
  have hg := edgN_in hv
  have hel := edgN_len ns ls
  have hql := spsE_len hC hsp
  have hok := spsE_ok hsp
  have hw : ∀ v, v < ns.length → wS q[v]! = q[v]! := fun v hv => by
    rw [getElem!_pos q v (by omega)]
    exact wS_ok (hok _ (List.getElem_mem _))
  have hbal := fun i hi => bal_law hg htf hw (i := i) hi
  have hfl := flowsF_len ns.length (edgN ns ls) q
  simp [hE]
  generalize flowsF ns.length (edgN ns ls) q = fl at *
  have e1 : fl.length = ls.length := by omega
  simp [e1, hql]
  refine callW_of k4 (.inr rfl) ?_
  generalize edgN ns ls = es at *
  simp
  refine loop_of Nat (fun i => [(1, slx b (q.map knD)), (5, .sl (fl.map knD)), (7, .sl (es.map edK)), (50, .sl (es.map edK)), (51, .int .i64 es.length), (52, .int .i64 i)]) (fun i => i ≤ es.length) (fun i => es.length - i) 0 (by simp) (by simp) ?_
  rintro i hi
  simp
  refine brB_of (fun h => ?_) (fun h => ?_) <;> simp [h] <;> simp at h
  · have hwi : IntKind.wrap .i64 ((i : Int) + 1) = ((i + 1 : Nat) : Int) := wrap_i64 (by omega) (by omega)
    obtain ⟨g1, g2⟩ := hg _ (List.getElem_mem h)
    have hq1 : es[i].1 < q.length := by omega
    have eq1 : q[es[i].1]! = q[es[i].1] := getElem!_pos q _ hq1
    simp [h, edK, knD, hq1]
    refine loop_of Nat (fun k => [(1, slx b (q.map knD)), (5, .sl (fl.map knD)), (7, .sl (es.map edK)), (8, .int .i64 i), (9, .adr (.r 10144) 0 0), (10144, .blk 2 [edK es[i]]), (10, .adr (.r 10160) 0 0), (10160, .blk 2 [knD (balS es fl q[es[i].1] es[i].1 k)]), (50, .sl (es.map edK)), (51, .int .i64 es.length), (52, .int .i64 i), (62, .sl (es.map edK)), (63, .int .i64 es.length), (64, .int .i64 k)]) (fun k => k ≤ es.length) (fun k => es.length - k) 0 (by simp) (by simp [balS, edK, knD]) ?_
    rintro k hk
    simp
    refine brB_of (fun g => ?_) (fun g => ?_) <;> simp [g] <;> simp at g
    · have hwk : IntKind.wrap .i64 ((k : Int) + 1) = ((k + 1 : Nat) : Int) := wrap_i64 (by omega) (by omega)
      have hkf : k < fl.length := by omega
      have eb : balS es fl q[es[i].1] es[i].1 (k + 1) = if es[k].2 = es[i].1 then spA (balS es fl q[es[i].1] es[i].1 k) fl[k] else balS es fl q[es[i].1] es[i].1 k := by rw [balS, getElem!_pos es k g, getElem!_pos fl k hkf]
      generalize balS es fl q[es[i].1] es[i].1 k = s at *
      simp [g, edK, knD]
      refine brB_of (fun c => ?_) (fun c => ?_) <;> simp at c <;> simp [c]
      · have c' : es[k].2 = es[i].1 := by omega
        rw [if_pos c'] at eb
        simp [hkf, knD]
        refine ⟨indW_of (by decide +kernel), ?_⟩
        simp [hwk]
        refine ⟨k + 1, by omega, by omega, ?_, by omega⟩
        rw [eb]
        exact ⟨rfl, rfl⟩
      · have c' : ¬ es[k].2 = es[i].1 := by omega
        rw [if_neg c'] at eb
        simp [hwk]
        exact ⟨k + 1, by omega, by omega, by rw [eb]; exact ⟨rfl, rfl⟩, by omega⟩
    · have ek : k = es.length := by omega
      subst ek
      have hb := hbal i h
      have hif : i < fl.length := by omega
      rw [getElem!_pos fl i hif, eq1] at hb
      simp [hif, knD, ← hb]
      refine ⟨indW_of (by decide +kernel), ?_⟩
      simp [hwi]
      exact ⟨i + 1, by omega, by omega, by omega⟩
end Go.Gv
