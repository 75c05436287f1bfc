/-
  Texts of the proof: Q29, M1, P4, M0, W1, W2, W3, W4, K11, W5, P4b, Q8, Q30, Q9, Q10, K12, M2a, K13, M2, M3, M4, P3, B6, B7, P5, M5, P1, P2, B8, P6, Q14, Q15, Q16, Q17, B9, P7, Q19, Q23, Q25, Q31, Q32, Q33, Q11, Q13, Q18, Q20, Q24, Q26, Q34, Q37, Q35, Q38, Q36, Q39.
-/
import Derived.Test.YtbenilopabpjnaaGreatX7
import Derived.Test.YtbenilopabpjnaaGreatX6
set_option linter.all false
set_option linter.unusedSimpArgs false
namespace Go.Gv
def lftW (n : Nat) (es : List Edg) (out : Nat → Bool) : Nat := wtS (fun v => if out v = true then 0 else 1 + (nxt n es v).length) n
theorem lftW_step {n : Nat} {es : List Edg} {out : Nat → Bool} {i : Nat} (hi : i < n) (ho : out i = false) : lftW n es out = lftW n es (fun u => if u = i then true else out u) + (1 + (nxt n es i).length) := by
  unfold lftW
  rw [wtS_upd (f := fun v => if out v = true then 0 else 1 + (nxt n es v).length) (g := fun v => if (if v = i then true else out v) = true then 0 else 1 + (nxt n es v).length) hi (fun k hk => by simp only [if_neg hk]) (by simp)]
  simp [ho]
theorem lftW_le (n : Nat) (es : List Edg) (out : Nat → Bool) : lftW n es out ≤ n * (1 + n) := by
  refine wtS_le fun k _ => ?_
  have := nxt_len n es k
  split <;> omega
theorem intL_map (l : List Nat) : intL l = (l.map fun k : Nat => (k : Int)).map fun n => [.int .i64 n] := by simp [intL]
variable {C : CC} (hC : Closed prog C)
include hC
set_option maxHeartbeats 2000000 in
theorem reach_c {b : Bool} {n : Nat} {es : List Edg} (hn : n ≤ 300) (hg : inG n es) (fr : List Nat) (hf : ∀ s ∈ fr, s < n) (hl : fr.length ≤ 1000) : C 521 [nxtD n es, slx b (intL fr)] (.sl (boolA n (rB es fr))) [] := by
  have k1 := Clone_c hC b (fr.map fun k : Nat => (k : Int)) (by simp; omega)
  rw [← intL_map] at k1
  obtain ⟨R, hR, hRg⟩ : ∃ R, nxtD n es = .sl R ∧ ∀ v, v < n → R[v]? = some [ndD (nxt n es v)] := ⟨_, rfl, fun v hv => by simp [hv]⟩
  have hRl : R.length = n := by
    have := congrArg (fun d => match d with | .sl r => r.length | _ => 0) hR
    simpa [nxtD] using this.symm
  rw [hR]
  refine start hC (nf := N521_digraph_reach) rfl rfl ?_
  simp [N521_digraph_reach, hRl]
  refine ⟨by omega, ?_⟩
  refine callFW_of k1 ?_
  simp [intL_len]
  refine loop_of ((Nat → Bool) × List Nat × List (List D)) (fun s => [(0, .sl R), (5, .ref (.r 10080) 0 n), (10080, .blk 1 (boolA n s.1)), (6, .ref (.r 10096) 0 s.2.1.length), (10096, .blk 1 s.2.2)])
    (fun s => s.2.2.take s.2.1.length = intL s.2.1 ∧ (∀ v, s.1 v = true → RR es fr v) ∧ (∀ v ∈ s.2.1, v < n ∧ RR es fr v) ∧ (∀ v ∈ fr, s.1 v = true ∨ v ∈ s.2.1) ∧ (∀ u w, (u, w) ∈ es → s.1 u = true → s.1 w = true ∨ w ∈ s.2.1) ∧ s.2.1.length + lftW n es s.1 ≤ 1000 + n * (1 + n))
    (fun s => s.2.1.length + lftW n es s.1) ((fun _ => false), fr, intL fr) ⟨by simp [← intL_len fr], by simp, fun v hv => ⟨hf v hv, v, hv, .refl v⟩, fun v hv => .inr hv, by simp, by have := lftW_le n es (fun _ => false); simp only; omega⟩ (by simp [boolA, rep_map]) ?_
  rintro ⟨out, st, rows⟩ ⟨i1, i2, i3, i4, i5, i6⟩
  simp only at i1 i2 i3 i4 i5 i6
  simp
  refine brB_of (fun h => ?_) (fun h => ?_) <;> simp at h
  · obtain ⟨st', i, rfl⟩ : ∃ st' i, st = st' ++ [i] := by
      rcases List.eq_nil_or_concat st with e | ⟨l, x, e⟩
      · rw [e] at h; simp at h
      · exact ⟨l, x, by simpa using e⟩
    obtain ⟨m, hm⟩ : ∃ m, m = st'.length := ⟨_, rfl⟩
    have hlen : (st' ++ [i]).length = m + 1 := by simp [hm]
    rw [hlen] at i1 i6
    have hrl : m + 1 ≤ rows.length := by
      have := congrArg List.length i1
      rw [List.length_take, intL_len, hlen] at this
      omega
    have hg1 : rows[m]? = some [.int .i64 (i : Int)] := by
      have := congrArg (fun l => l[m]?) i1
      simp only [List.getElem?_take, if_pos (Nat.lt_succ_self m)] at this
      rw [this]
      simp [intL, hm]
    have hg2 : rows.take m = intL st' := by
      have := congrArg (List.take m) i1
      rw [List.take_take, Nat.min_eq_left (by omega)] at this
      rw [this]
      simp [intL, hm, List.take_left' ]
    have hi := i3 i (by simp)
    have h300 : n * (1 + n) ≤ 300 * 301 := Nat.mul_le_mul hn (by omega)
    have hwm : IntKind.wrap .i64 (m : Int) = (m : Int) := wrap_i64 rfl (by omega)
    simp only [hlen]
    simp [hwm, rowW_some hg1, hg1]
    refine ⟨hi.1, ?_⟩
    simp [rowW_some (boolA_get out hi.1), boolA_get out hi.1]
    refine brB_of (fun ho => ?_) (fun ho => ?_) <;> simp at ho
    · have hstep := lftW_step (es := es) hi.1 ho
      have hnl := nxt_len n es i
      simp [hi.1, boolA_len, rowW_some (boolA_get out hi.1), boolA_get out hi.1, idxW_some (hRg i hi.1), hRg i hi.1, hRl, ndD]
      have hb1 : 1 ≤ ((boolA n out)[i]'(by rw [boolA_len]; exact hi.1)).length := by simp [boolA]
      have hfl : ∀ e ∈ intL (nxt n es i), e.length = 1 ∧ ∀ c ∈ e, isC1 c = true := fun e he => by
        obtain ⟨k, _, rfl⟩ := List.mem_map.1 he
        simp [isC1]
      refine ⟨hb1, hfl, by omega, by rw [intL_len]; omega, fun u => if u = i then true else out u, st' ++ nxt n es i, rows.take m ++ intL (nxt n es i), ⟨?_, fun v hv => ?_, fun v hv => ?_, fun v hv => ?_, fun u w e hu => ?_, ?_⟩, ?_, ?_, ?_, ?_⟩
      · rw [hg2, List.take_of_length_le (by simp [intL])]; simp [intL]
      · by_cases e : v = i
        · rw [e]; exact hi.2
        · simp only [if_neg e] at hv; exact i2 v hv
      · rcases List.mem_append.1 hv with h1 | h1
        · exact i3 v (by simp [h1])
        · obtain ⟨h2, h3⟩ := mem_nxt.1 h1
          obtain ⟨s0, hs0, hp⟩ := hi.2
          exact ⟨h2, s0, hs0, hp.snoc h3⟩
      · rcases i4 v hv with h1 | h1
        · left; simp only; split <;> simp [h1]
        · rcases List.mem_append.1 h1 with h2 | h2
          · exact .inr (by simp [h2])
          · rw [List.mem_singleton.1 h2]; exact .inl (by simp)
      · by_cases e2 : u = i
        · subst e2
          exact .inr (List.mem_append.2 (.inr (mem_nxt.2 ⟨(hg _ e).2, e⟩)))
        · simp only [if_neg e2] at hu
          rcases i5 u w e hu with h1 | h1
          · left; simp only; split <;> simp [h1]
          · rcases List.mem_append.1 h1 with h2 | h2
            · exact .inr (by simp [h2])
            · rw [List.mem_singleton.1 h2]; exact .inl (by simp)
      · rw [List.length_append]; omega
      · rw [List.length_append]; omega
      · have e9 : ((boolA n out)[i]'(by rw [boolA_len]; exact hi.1)).tail = [] := by simp [boolA]
        rw [e9]
        exact boolA_set out true
      · rw [intL_len, List.length_append, hm]
      · trivial
    · simp
      refine ⟨out, st', rows, ⟨by rw [← hm]; exact hg2, i2, fun v hv => i3 v (by simp [hv]), fun v hv => ?_, fun u w e hu => ?_, by omega⟩, by omega, rfl, by omega, rfl⟩
      · rcases i4 v hv with h1 | h1
        · exact .inl h1
        · rcases List.mem_append.1 h1 with h2 | h2
          · exact .inr h2
          · rw [List.mem_singleton.1 h2]; exact .inl ho
      · rcases i5 u w e hu with h1 | h1
        · exact .inl h1
        · rcases List.mem_append.1 h1 with h2 | h2
          · exact .inr h2
          · rw [List.mem_singleton.1 h2]; exact .inl ho
  · have hst : st = [] := by
      cases st with
      | nil => rfl
      | cons x l => simp at h
    subst hst
    simp at i4 i5
    have hcl := rB_closed i2 (fun s hs => i4 s hs) (fun u w e hu => i5 u w e hu)
    simp [h]
    rw [boolA_V, List.take_of_length_le (by rw [boolA_len]; exact Nat.le_refl _)]
    exact ⟨by simp [boolA_len], boolA_congr fun v _ => hcl v⟩
end Go.Gv

set_option linter.unusedSimpArgs false
namespace Go.Gv
variable {C : CC} (hC : Closed prog C)
include hC
theorem rDigit_c (c : Int) : C 78 [.int .u8 c] (.bool (isDigit c)) [] := by
  refine start hC (nf := N78_ref01_Digit) rfl rfl ?_
  simp [N78_ref01_Digit, isDigit]
  refine brB_of (fun h => ?_) (fun h => ?_) <;> simp at h <;> simp [h] <;> omega
theorem rLetter_c (c : Int) : C 62 [.int .u8 c] (.bool (isLetter c)) [] := by
  refine start hC (nf := N62_ref01_Letter) rfl rfl ?_
  simp [N62_ref01_Letter, isLetter]
  repeat' (refine brB_of (fun h => ?_) (fun h => ?_) <;> simp at h <;> simp [h] <;> try omega)
theorem rword_c (s : List UInt8) (hs : s.length < 2 ^ 62) : C 63 [.str s, .int .i64 0] (.int .i64 (wordLen s)) [] := by
  refine start hC (nf := N63_ref01_word) rfl rfl ?_
  simp [N63_ref01_word]
  refine loop_of Nat (fun i => [(0, .str s), (1, .int .i64 i)]) (fun i => i ≤ wordLen s) (fun i => wordLen s - i) 0 (by simp) (by simp) ?_
  intro i hi
  have hle : wordLen s ≤ s.length := wordLen_le s
  by_cases hl : i < s.length
  · simp [hl]
    refine callW_of (rLetter_c hC _) (.inl rfl) ?_
    have hstep : isWordB s[i] = true → i + 1 ≤ wordLen s := wordLen_more hl hi
    have hstop : isWordB s[i] = false → i = wordLen s := wordLen_stop hl hi
    simp only [isWordB] at hstep hstop
    have hw : IntKind.wrap .i64 ((i : Int) + 1) = ((i + 1 : Nat) : Int) := wrap_i64 (by omega) (by omega)
    cases h1 : isLetter s[i].toNat with
    | true => 
      simp [h1, hw] at hstep ⊢
      exact ⟨i + 1, by omega, by omega, rfl⟩
    | false =>
      simp [h1, hl]
      refine callW_of (rDigit_c hC _) (.inl rfl) ?_
      cases h2 : isDigit s[i].toNat with
      | true =>
        simp [h1, h2, hw] at hstep ⊢
        exact ⟨i + 1, by omega, by omega, rfl⟩
      | false =>
        simp [hl]
        refine brB_of (fun h3 => ?_) (fun h3 => ?_) <;> simp at h3
        · simp [hw, hl]
          have := hstep (by simp [show s[i].toNat = 95 by omega])
          exact ⟨i + 1, this, by omega, rfl⟩
        · have h4 : ¬ s[i].toNat = 95 := by omega
          simp [h1, h2, h4] at hstop ⊢
          omega
  · simp [hl]
    have : i = wordLen s := by omega
    omega
theorem rIsName_c (s : List UInt8) : C 54 [.str s] (.bool (isName s)) [] := by
  refine start hC (nf := N54_ref01_IsName) rfl rfl ?_
  simp [N54_ref01_IsName]
  refine brB_of (fun h => ?_) (fun h => ?_) <;> simp at h
  · subst h
    simp [isName]
  · have hp : 0 < s.length := List.length_pos_iff.2 h
    simp [h, hp]
    refine brB_of (fun h2 => ?_) (fun h2 => ?_) <;> simp at h2
    · simp [h2, isName]
      omega
    · simp [h2, hp]
      refine callW_of (rLetter_c hC _) (.inl rfl) ?_
      simp
      cases h3 : isLetter s[0].toNat
      · simp [h3, isName, h, hp]
      · simp [h3, h2]
        refine callW_of (rword_c hC s (by omega)) (.inl rfl) ?_
        simp [isName, h, h3, show s.length ≤ 20 by omega, hp, Int.ofNat_inj]
        rw [Bool.eq_iff_iff]; simp
theorem rNumber_c (n : Int) : C 79 [.int .i64 n] (.bool (fits n)) [] := by
  refine start hC (nf := N79_ref06_Number) rfl rfl ?_
  simp [N79_ref06_Number, fits]
  refine brB_of (fun h => ?_) (fun h => ?_) <;> simp at h <;> simp [h] <;> omega
theorem rTable_c (b : Bool) (t : List (Int × Int)) : C 64 [slx b (t.map knD)] (.bool (tableValid t)) [] := by
  refine start hC (nf := N64_ref06_Valid) rfl rfl ?_
  simp [N64_ref06_Valid]
  refine brB_of (fun h => ?_) (fun h => ?_) <;> simp at h
  · simp [tableValid, show t.length = 0 by omega]
  simp [h]
  refine brB_of (fun h2 => ?_) (fun h2 => ?_) <;> simp at h2
  · simp [tableValid, h, h2]
    omega
  simp
  refine loop_of Nat (fun i => [(0, slx b (t.map knD)), (3, .int .i64 i)]) (fun i => i ≤ t.length ∧ ∀ j < i, okAt t j = true) (fun i => t.length - i) 0 (by simp) (by simp) ?_
  rintro i ⟨hi, hj⟩
  simp
  refine brB_of (fun h3 => ?_) (fun h3 => ?_) <;> simp at h3
  · have bad : okAt t i = false → tableValid t = false := fun hb => by
      simp only [tableValid, Bool.and_eq_false_iff, List.all_eq_false]
      exact .inr ⟨i, by simpa using h3, by simp [hb]⟩
    have e1 : t[i]! = t[i] := getElem!_pos t i h3
    have e2 : t[i - 1]! = t[i - 1] := getElem!_pos t (i - 1) (by omega)
    simp only [okAt, e1, e2] at bad
    have hw1 : IntKind.wrap .i64 ((i : Int) + 1) = ((i + 1 : Nat) : Int) := wrap_i64 (by omega) (by omega)
    have next : okAt t i = true → ∃ s' : Nat, (s' ≤ t.length ∧ ∀ j < s', okAt t j = true) ∧ t.length - s' < t.length - i ∧ s' = i + 1 := fun ho =>
      ⟨i + 1, ⟨by omega, fun j hjj => by
        rcases Nat.lt_succ_iff_lt_or_eq.1 hjj with h | rfl
        · exact hj j h
        · exact ho⟩, by omega, rfl⟩
    simp only [okAt, e1, e2] at next
    simp [h3, knD]
    refine callW_of (rNumber_c hC _) (.inl rfl) ?_
    cases f1 : fits t[i].1
    · simp
      exact bad (by simp [f1])
    simp [h3, knD]
    refine callW_of (rNumber_c hC _) (.inl rfl) ?_
    cases f2 : fits t[i].2
    · simp
      exact bad (by simp [f2])
    simp [h3, knD]
    refine brB_of (fun h4 => ?_) (fun h4 => ?_) <;> simp at h4
    · have hw : IntKind.wrap .i64 ((i : Int) - 1) = ((i - 1 : Nat) : Int) := wrap_i64 (by omega) (by omega)
      have h5 : i - 1 < t.length := by omega
      simp [h4, hw, h5, h3, knD]
      refine brB_of (fun h6 => ?_) (fun h6 => ?_) <;> simp [h6, hw, h5, h3, knD] <;> simp at h6
      · refine ⟨indW_of (by decide +kernel), bad ?_⟩
        simp [f1, f2]
        omega
      · refine ⟨indW_of (by decide +kernel), ?_⟩
        refine brB_of (fun h7 => ?_) (fun h7 => ?_) <;> simp [h7, hw1] <;> simp at h7
        · refine bad ?_
          simp [f1, f2]
          omega
        · obtain ⟨s', g1, g2, rfl⟩ := next (by simp [f1, f2, h6, h7])
          exact ⟨_, g1, g2, rfl⟩
    · have hi0 : i = 0 := by omega
      subst hi0
      simp at hw1
      simp [hw1]
      refine ⟨indW_of (by decide +kernel), ?_⟩
      obtain ⟨s', g1, g2, rfl⟩ := next (by simp [f1, f2])
      exact ⟨_, g1, g2, rfl⟩
  · have : i = t.length := by omega
    subst this
    simp [tableValid, h, h2]
    exact ⟨⟨by omega, by omega⟩, hj⟩
end Go.Gv

set_option linter.unusedSimpArgs false
namespace Go.Gv
def curveR (l : List (Int × Int)) : Bool := tableValid l && decide (0 ≤ l[0]!.1) && decide ((lastK l).1 ≤ 4194304) && decide (0 ≤ l[0]!.2) && decide ((lastK l).2 ≤ 1099511627776)
def kindR (l : Lnk) : Bool :=
  if l.kind = 1 then lowHigh l.len 1 16777216 && isName l.sect && decide (l.width = 0) && decide (l.height = 0) && decide (l.curve.length = 0)
  else if l.kind = 2 then decide (l.len = 0) && decide (l.down = 0) && decide (l.sect = []) && lowHigh l.width 1 1048576 && decide (l.height = 0) && decide (l.curve.length = 0)
  else if l.kind = 3 then decide (l.len = 0) && decide (l.down = 0) && decide (l.sect = []) && lowHigh l.width 1 32768 && lowHigh l.height 1 32768 && decide (l.curve.length = 0)
  else if l.kind = 4 then decide (l.len = 0) && decide (l.down < l.up) && decide (l.sect = []) && decide (l.width = 0) && decide (l.height = 0) && curveR l.curve
  else false
def linkR (l : Lnk) : Bool := isName l.name && isName l.src && isName l.dst && !decide (l.src = l.dst) && lvlOk l.up && lvlOk l.down && kindR l
variable {C : CC} (hC : Closed prog C)
include hC
theorem rLevel_c (n : Int) : C 199 [.int .i64 n] (.bool (lvlOk n)) [] := by
  refine start hC (nf := N199_ref26_level) rfl rfl ?_
  simp [N199_ref26_level, lvlOk]
  refine brB_of (fun h => ?_) (fun h => ?_) <;> simp at h <;> simp [h] <;> omega
theorem rWithin_c (n a : Int) : C 200 [.int .i64 n, .int .i64 a] (.bool (lowHigh n 1 a)) [] := by
  refine start hC (nf := N200_ref26_within) rfl rfl ?_
  simp [N200_ref26_within, lowHigh]
  refine brB_of (fun h => ?_) (fun h => ?_) <;> simp at h <;> simp [h] <;> omega
theorem rCurve_c (b : Bool) (t : List (Int × Int)) : C 201 [slx b (t.map knD)] (.bool (curveR t)) [] := by
  refine start hC (nf := N201_ref26_curve) rfl rfl ?_
  simp [N201_ref26_curve]
  refine callW_of (rTable_c hC b t) (.inl rfl) ?_
  cases hv : tableValid t
  · simp [curveR, hv]
  obtain ⟨l1, l2⟩ := valid_len hv
  obtain ⟨n, hn⟩ : ∃ n, n + 1 = t.length := ⟨t.length - 1, by omega⟩
  have e1 : IntKind.wrap .i64 ((t.length : Int) - 1) = (n : Int) := wrap_i64 (by omega) (by omega)
  have hnl : n < t.length := by omega
  have h0 : 0 < t.length := by omega
  have e0 : t[0]! = t[0] := getElem!_pos t 0 h0
  rw [curveR, hv, e0, lastK_get hn]
  simp [h0, knD]
  refine brB_of (fun c1 => ?_) (fun c1 => ?_) <;> simp at c1 <;> simp [c1, e1, hnl, knD, h0]
  · refine brB_of (fun c2 => ?_) (fun c2 => ?_) <;> simp at c2 <;> simp [c2, e1, hnl, knD, h0]
    · refine brB_of (fun c3 => ?_) (fun c3 => ?_) <;> simp at c3 <;> simp [c3, e1, hnl, knD, h0]
      · omega
      · intro _ _ _; omega
    · omega
  · omega
theorem linkR_c (l : Lnk) : C 194 [.agg (lnkC l)] (.bool (linkR l)) [] := by
  have k1 := rIsName_c hC l.name
  have k2 := rIsName_c hC l.src
  have k3 := rIsName_c hC l.dst
  have k4 := rLevel_c hC l.up
  have k5 := rLevel_c hC l.down
  have k6 := rIsName_c hC l.sect
  obtain ⟨r, hr⟩ : ∃ r, r = linkR l := ⟨_, rfl⟩
  rw [← hr]
  unfold linkR at hr
  refine start hC (nf := N194_ref26_RightLink) rfl rfl ?_
  simp [N194_ref26_RightLink, lnkC]
  refine callW_of k1 (.inl rfl) ?_
  cases h1 : isName l.name
  · simp [hr, h1]
  simp
  refine callW_of k2 (.inl rfl) ?_
  cases h2 : isName l.src
  · simp [hr, h2]
  simp
  refine callW_of k3 (.inl rfl) ?_
  cases h3 : isName l.dst
  · simp [hr, h3]
  simp
  refine brB_of (fun h4 => ?_) (fun h4 => ?_) <;> simp at h4 <;> simp [h4]
  · simp [hr, h4]
  refine callW_of k4 (.inl rfl) ?_
  cases h5 : lvlOk l.up
  · simp [hr, h5]
  simp
  refine callW_of k5 (.inl rfl) ?_
  cases h6 : lvlOk l.down
  · simp [hr, h6]
  simp
  rw [h1, h2, h3, decide_eq_false h4, h5, h6] at hr
  simp only [Bool.true_and, Bool.not_false] at hr
  unfold kindR at hr
  clear k1 k2 k3 k4 k5 h1 h2 h3 h4 h5 h6
  refine brB_of (fun h7 => ?_) (fun h7 => ?_) <;> simp at h7 <;> simp [h7]
  · rw [if_pos h7] at hr
    refine callW_of (rWithin_c hC l.len 16777216) (.inl rfl) ?_
    cases a1 : lowHigh l.len 1 16777216
    · simp [hr, a1]
    simp
    refine callW_of k6 (.inl rfl) ?_
    cases a2 : isName l.sect
    · simp [hr, a2]
    simp
    refine brB_of (fun a3 => ?_) (fun a3 => ?_) <;> simp at a3 <;> simp [a3]
    rotate_left
    · simp [hr, a3]
    refine brB_of (fun a4 => ?_) (fun a4 => ?_) <;> simp at a4 <;> simp [a4]
    rotate_left
    · simp [hr, a4]
    simp [hr, a1, a2, a3, a4]
  rw [if_neg h7] at hr
  refine brB_of (fun h8 => ?_) (fun h8 => ?_) <;> simp at h8 <;> simp [h8]
  · rw [if_pos h8] at hr
    refine brB_of (fun a1 => ?_) (fun a1 => ?_) <;> simp at a1 <;> simp [a1]
    rotate_left
    · simp [hr, a1]
    refine brB_of (fun a2 => ?_) (fun a2 => ?_) <;> simp at a2 <;> simp [a2]
    rotate_left
    · simp [hr, a2]
    refine brB_of (fun a3 => ?_) (fun a3 => ?_) <;> simp at a3 <;> simp [a3]
    rotate_left
    · simp [hr, a3]
    refine callW_of (rWithin_c hC l.width 1048576) (.inl rfl) ?_
    cases a4 : lowHigh l.width 1 1048576
    · simp [hr, a4]
    simp
    refine brB_of (fun a5 => ?_) (fun a5 => ?_) <;> simp at a5 <;> simp [a5]
    rotate_left
    · simp [hr, a5]
    simp [hr, a1, a2, a3, a4, a5]
  rw [if_neg h8] at hr
  refine brB_of (fun h9 => ?_) (fun h9 => ?_) <;> simp at h9 <;> simp [h9]
  · rw [if_pos h9] at hr
    refine brB_of (fun a1 => ?_) (fun a1 => ?_) <;> simp at a1 <;> simp [a1]
    rotate_left
    · simp [hr, a1]
    refine brB_of (fun a2 => ?_) (fun a2 => ?_) <;> simp at a2 <;> simp [a2]
    rotate_left
    · simp [hr, a2]
    refine brB_of (fun a3 => ?_) (fun a3 => ?_) <;> simp at a3 <;> simp [a3]
    rotate_left
    · simp [hr, a3]
    refine callW_of (rWithin_c hC l.width 32768) (.inl rfl) ?_
    cases a4 : lowHigh l.width 1 32768
    · simp [hr, a4]
    simp
    refine callW_of (rWithin_c hC l.height 32768) (.inl rfl) ?_
    cases a5 : lowHigh l.height 1 32768
    · simp [hr, a5]
    simp [hr, a1, a2, a3, a4, a5]
  rw [if_neg h9] at hr
  refine brB_of (fun h10 => ?_) (fun h10 => ?_) <;> simp at h10 <;> simp [h10]
  · rw [if_pos h10] at hr
    refine brB_of (fun a1 => ?_) (fun a1 => ?_) <;> simp at a1 <;> simp [a1]
    rotate_left
    · simp [hr, a1]
    refine brB_of (fun a2 => ?_) (fun a2 => ?_) <;> simp at a2 <;> simp [a2]
    rotate_left
    · simp [hr, show ¬ l.down < l.up by omega]
    refine brB_of (fun a3 => ?_) (fun a3 => ?_) <;> simp at a3 <;> simp [a3]
    rotate_left
    · simp [hr, a3]
    refine brB_of (fun a4 => ?_) (fun a4 => ?_) <;> simp at a4 <;> simp [a4]
    rotate_left
    · simp [hr, a4]
    refine brB_of (fun a5 => ?_) (fun a5 => ?_) <;> simp at a5 <;> simp [a5]
    rotate_left
    · simp [hr, a5]
    refine callW_of (rCurve_c hC l.curveN l.curve) (.inl rfl) ?_
    simp [hr, a1, a2, a3, a4, a5]
  · rw [if_neg h10] at hr
    simp [hr]
end Go.Gv

set_option linter.unusedSimpArgs false
namespace Go.Gv
open Go.Lib
theorem shlN (a k m : Nat) (hm : m = a * 2 ^ k % 18446744073709551616) : IntKind.u64.wrap ((a : Int) * 2 ^ k) = (m : Int) := by
  have e : (a : Int) * 2 ^ k = ((a * 2 ^ k : Nat) : Int) := by push_cast; rfl
  rw [e, wrapM, hm]
theorem uw {n : Int} {m : Nat} (h : n = m ∨ n = m + 18446744073709551616 ∨ n = m - 18446744073709551616) (hm : m < 18446744073709551616) : IntKind.u64.wrap n = (m : Int) := by
  rw [wrapU]; omega
end Go.Gv

set_option linter.unusedSimpArgs false
namespace Go.Gv
open Go.Lib
theorem shl4 (a m : Nat) (hm : m = a * 16 % 18446744073709551616) : IntKind.u64.wrap ((a : Int) * 2 ^ min 4 IntKind.u64.bits) = (m : Int) := shlN a 4 m hm
theorem shl60 (a m : Nat) (hm : m = a * 1152921504606846976 % 18446744073709551616) : IntKind.u64.wrap ((a : Int) * 2 ^ min 60 IntKind.u64.bits) = (m : Int) := shlN a 60 m hm
theorem shr60 (a : Nat) : Int.fdiv (a : Int) (2 ^ min 60 IntKind.u64.bits) = ((a / 1152921504606846976 : Nat) : Int) := shrN a 60
theorem shr4 (a : Nat) : Int.fdiv (a : Int) (2 ^ min 4 IntKind.u64.bits) = ((a / 16 : Nat) : Int) := shrN a 4
theorem mask60 (a : Nat) (ha : a < 18446744073709551616) : bits .and .u64 (a : Int) 1152921504606846975 = ((a % 1152921504606846976 : Nat) : Int) := by
  have h := bits_and_u64_nat a 1152921504606846975 ha (by omega)
  have e : a &&& 1152921504606846975 = a % 1152921504606846976 := Nat.and_two_pow_sub_one_eq_mod a 60
  rw [e] at h
  exact h
theorem or16 (a b : Nat) (hb : b < 16) (h : a * 16 + b < 18446744073709551616) : bits .or .u64 ((a * 16 : Nat) : Int) (b : Int) = ((a * 16 + b : Nat) : Int) := orN a b 4 hb h
theorem or60 (a b : Nat) (hb : b < 1152921504606846976) (h : a * 1152921504606846976 + b < 18446744073709551616) : bits .or .u64 ((a * 1152921504606846976 : Nat) : Int) (b : Int) = ((a * 1152921504606846976 + b : Nat) : Int) := orN a b 60 hb h
def numD (p : Nat) (neg : Bool) : D := .agg [.int .u64 ((p / 18446744073709551616 : Nat) : Int), .int .u64 ((p % 18446744073709551616 : Nat) : Int), .bool neg]
def wiD (p : Nat) : D := .agg [.int .i64 ((p / 1152921504606846976 : Nat) : Int), .int .i64 ((p % 1152921504606846976 : Nat) : Int)]
variable {C : CC} (hC : Closed prog C)
include hC
theorem wsize_c (n : Nat) (h : n < 9223372036854775808) : C 112 [.int .i64 n] (.int .u64 (n : Int)) [] := by
  refine start hC (nf := N112_wide_size) rfl rfl ?_
  have h0 : ¬ (n : Int) < 0 := by omega
  simp [N112_wide_size, h0, wrapN n (by omega)]
theorem signed_c (a b : Int) (n : Bool) : C 113 [.int .u64 a, .int .u64 b, .bool n] (.agg [.int .u64 a, .int .u64 b, .bool (n && (!decide (a = 0) || !decide (b = 0)))]) [] := by
  refine start hC (nf := N113_wide_signed) rfl rfl ?_
  simp [N113_wide_signed]
  cases n <;> simp
  by_cases h : a = 0 <;> simp [h]
theorem wtimes_c (x y : Nat) (hx : x < 9223372036854775808) (hy : y < 9223372036854775808) : C 103 [.int .i64 x, .int .i64 y] (numD (x * y) false) [] := by
  refine start hC (nf := N103_wide_times) rfl rfl ?_
  have h0 : ¬ (x : Int) < 0 := by omega
  have h1 : ¬ (y : Int) < 0 := by omega
  have hm := Mul64_c hC x y (by omega) (by omega)
  rw [numD]
  obtain ⟨zh, hzh⟩ : ∃ zh, zh = x * y / 18446744073709551616 := ⟨_, rfl⟩
  obtain ⟨zl, hzl⟩ : ∃ zl, zl = x * y % 18446744073709551616 := ⟨_, rfl⟩
  rw [← hzh, ← hzl] at hm ⊢
  simp [N103_wide_times]
  refine callW_of (wsize_c hC x hx) (.inl rfl) ?_
  simp
  refine callW_of (wsize_c hC y hy) (.inl rfl) ?_
  simp
  refine callW_of hm (.inl rfl) ?_
  simp [h0, h1]
  refine callW_of (signed_c hC zh zl false) (.inl rfl) ?_
  simp
theorem whole_c (n : Nat) (h : n < 9223372036854775808) : C 110 [.int .u64 n, .bool false] (.tup [.int .i64 n, .int .i64 0]) [] := by
  refine start hC (nf := N110_wide_whole) rfl rfl ?_
  have h1 : (n : Int) ≤ 9223372036854775807 := by omega
  have h2 : IntKind.i64.wrap (n : Int) = (n : Int) := wrap_i64 rfl (by omega)
  simp [N110_wide_whole, h1, h2]
theorem quotient_c (p d : Nat) (up : Bool) (q : Nat) (hd : d < 9223372036854775808) (hp : p / 18446744073709551616 < d) (hq : q < 9223372036854775808) (hv : q = if up then (p + d - 1) / d else p / d) (hqd : p / d + 1 < 9223372036854775808) : C 104 [numD p false, .int .i64 d, .bool up] (.tup [.int .i64 q, .int .i64 0]) [] := by
  obtain ⟨ph, hph⟩ : ∃ z, z = p / 18446744073709551616 := ⟨_, rfl⟩
  obtain ⟨pl, hpl⟩ : ∃ z, z = p % 18446744073709551616 := ⟨_, rfl⟩
  have hpp : ph * 18446744073709551616 + pl = p := by omega
  obtain ⟨q0, hq0⟩ : ∃ z, z = p / d := ⟨_, rfl⟩
  obtain ⟨r0, hr0⟩ : ∃ z, z = p % d := ⟨_, rfl⟩
  have hdiv := Div64_c hC ph pl d (by omega) (by omega) (by omega)
  rw [hpp, ← hq0, ← hr0] at hdiv
  have hd0 : 0 < d := by omega
  have hdp : d * q0 + r0 = p := by rw [hq0, hr0]; exact Nat.div_add_mod p d
  have hrd : r0 < d := by rw [hr0]; exact Nat.mod_lt _ hd0
  have hup : up = true → q = if 0 < r0 then q0 + 1 else q0 := by
    rintro rfl
    simp only [if_true] at hv
    rw [hv, ← hdp]
    by_cases h : 0 < r0
    · rw [if_pos h, show d * q0 + r0 + d - 1 = d * q0 + (d + (r0 - 1)) by omega, Nat.mul_add_div hd0, Nat.add_div_left _ hd0, Nat.div_eq_of_lt (by omega)]
    · rw [if_neg h, show d * q0 + r0 + d - 1 = d * q0 + (d - 1) by omega, Nat.mul_add_div hd0, Nat.div_eq_of_lt (by omega)]
      rfl
  rw [numD, ← hph, ← hpl]
  have h1 : ¬ (d : Int) ≤ (ph : Int) := by omega
  have h2 : ¬ (d : Int) < 0 := by omega
  have h3 : IntKind.u64.wrap ((q0 : Int) + 1) = ((q0 + 1 : Nat) : Int) := uw (by omega) (by omega)
  refine start hC (nf := N104_wide_quotient) rfl rfl ?_
  simp [N104_wide_quotient]
  refine callW_of (wsize_c hC d hd) (.inl rfl) ?_
  simp [h1]
  refine callW_of hdiv (.inl rfl) ?_
  simp [h2]
  cases up
  · have e : q = q0 := by rw [hv, hq0]; rfl
    subst e
    refine brB_of (fun h => ?_) (fun h => ?_) <;> simp at h <;> simp [h]
    · refine callW_of (whole_c hC q hq) (.inl rfl) ?_
      simp
    · refine callW_of (whole_c hC q hq) (.inl rfl) ?_
      simp
  · have hv := hup rfl
    by_cases h : 0 < r0
    · have hi : (0 : Int) < r0 := by omega
      rw [if_pos h] at hv
      subst hv
      have h4 : ¬ ((q0 : Int) + 1 = 0) := by omega
      simp [hi, h3, h4, h]
      refine callW_of (whole_c hC (q0 + 1) hq) (.inl rfl) ?_
      simp
    · have hi : ¬ (0 : Int) < r0 := by omega
      rw [if_neg h] at hv
      subst hv
      simp [hi, h]
      refine callW_of (whole_c hC q hq) (.inl rfl) ?_
      simp
end Go.Gv

set_option linter.unusedSimpArgs false
namespace Go.Gv
open Go.Lib
variable {C : CC} (hC : Closed prog C)
include hC
theorem wvalid_c (p : Nat) (h : p < 1329227995784915872903807060280344576) : C 106 [wiD p] (.bool true) [] := by
  obtain ⟨ph, hph⟩ : ∃ z, z = p / 1152921504606846976 := ⟨_, rfl⟩
  obtain ⟨pl, hpl⟩ : ∃ z, z = p % 1152921504606846976 := ⟨_, rfl⟩
  rw [wiD, ← hph, ← hpl]
  have h1 : (-1152921504606846976 : Int) ≤ ph := by omega
  have h2 : (ph : Int) < 1152921504606846976 := by omega
  have h3 : (0 : Int) ≤ pl := by omega
  have h4 : (pl : Int) < 1152921504606846976 := by omega
  refine start hC (nf := N106_wide_Valid) rfl rfl ?_
  simp [N106_wide_Valid, h1, h2, h3, h4]
theorem placed_c (p : Nat) (h : p < 1329227995784915872903807060280344576) : C 105 [numD p false] (.tup [wiD p, .int .i64 0]) [] := by
  obtain ⟨ph, hph⟩ : ∃ z, z = p / 1152921504606846976 := ⟨_, rfl⟩
  obtain ⟨pl, hpl⟩ : ∃ z, z = p % 1152921504606846976 := ⟨_, rfl⟩
  obtain ⟨zh, hzh⟩ : ∃ z, z = p / 18446744073709551616 := ⟨_, rfl⟩
  obtain ⟨zl, hzl⟩ : ∃ z, z = p % 18446744073709551616 := ⟨_, rfl⟩
  rw [wiD, numD, ← hph, ← hpl, ← hzh, ← hzl]
  obtain ⟨zt, hzt⟩ : ∃ z, z = zl / 1152921504606846976 := ⟨_, rfl⟩
  have h1 : ¬ (72057594037927936 : Int) < zh := by omega
  have h2 : ¬ (zh : Int) = 72057594037927936 := by omega
  have e1 := shl4 zh (zh * 16) (by omega)
  have e2 := shr60 zl
  rw [← hzt] at e2
  have e3 := or16 zh zt (by omega) (by omega)
  have e4 : IntKind.i64.wrap ((zh * 16 + zt : Nat) : Int) = (ph : Int) := wrap_i64 (by omega) (by omega)
  have e5 := mask60 zl (by omega)
  have e6 : IntKind.i64.wrap ((zl % 1152921504606846976 : Nat) : Int) = (pl : Int) := wrap_i64 (by omega) (by omega)
  refine start hC (nf := N105_wide_placed) rfl rfl ?_
  simp [N105_wide_placed, h1, h2, e2, -Int.natCast_mul, -Int.natCast_emod]
  refine ⟨indW_of (by decide +kernel), ?_⟩
  rw [e1, e3, e4, e5, e6]
  simp
theorem value_c (p : Nat) (h : p < 1329227995784915872903807060280344576) : C 108 [wiD p] (numD p false) [] := by
  obtain ⟨ph, hph⟩ : ∃ z, z = p / 1152921504606846976 := ⟨_, rfl⟩
  obtain ⟨pl, hpl⟩ : ∃ z, z = p % 1152921504606846976 := ⟨_, rfl⟩
  obtain ⟨zh, hzh⟩ : ∃ z, z = p / 18446744073709551616 := ⟨_, rfl⟩
  obtain ⟨zl, hzl⟩ : ∃ z, z = p % 18446744073709551616 := ⟨_, rfl⟩
  rw [wiD, numD, ← hph, ← hpl, ← hzh, ← hzl]
  have h1 : (0 : Int) ≤ ph := by omega
  obtain ⟨w, hw⟩ : ∃ z, z = ph % 16 := ⟨_, rfl⟩
  have e1 : Int.fdiv (ph : Int) (2 ^ min 4 IntKind.u64.bits) = (zh : Int) := by rw [shr4]; omega
  have e2 : IntKind.u64.wrap ((ph : Int) * 2 ^ min 60 IntKind.u64.bits) = ((w * 1152921504606846976 : Nat) : Int) := shl60 ph _ (by omega)
  have e3 : IntKind.u64.wrap (pl : Int) = (pl : Int) := wrapN pl (by omega)
  have e4 : bits .or .u64 ((w * 1152921504606846976 : Nat) : Int) (pl : Int) = (zl : Int) := by
    rw [or60 w pl (by omega) (by omega)]; omega
  refine start hC (nf := N108_wide_value) rfl rfl ?_
  simp [N108_wide_value]
  refine callW_of (wsize_c hC ph (by omega)) (.inl rfl) ?_
  simp [h1]
  rw [e1, e2, e3, e4]
  simp
theorem minus_c (p : Nat) : C 109 [numD p false] (numD p (decide (p ≠ 0))) [] := by
  obtain ⟨zh, hzh⟩ : ∃ z, z = p / 18446744073709551616 := ⟨_, rfl⟩
  obtain ⟨zl, hzl⟩ : ∃ z, z = p % 18446744073709551616 := ⟨_, rfl⟩
  have e : decide (p ≠ 0) = (true && (!decide ((zh : Int) = 0) || !decide ((zl : Int) = 0))) := by
    rw [Bool.eq_iff_iff]; simp; omega
  rw [numD, numD, ← hzh, ← hzl, e]
  refine start hC (nf := N109_wide_minus) rfl rfl ?_
  simp [N109_wide_minus]
  refine callW_of (signed_c hC zh zl true) (.inl rfl) ?_
  simp
set_option maxHeartbeats 4000000 in
theorem sum_c (p r : Nat) (hr : r ≤ p) (hp : p < 1329227995784915872903807060280344576) : C 107 [numD p false, numD r (decide (r ≠ 0))] (numD (p - r) false) [] := by
  obtain ⟨ph, hph⟩ : ∃ z, z = p / 18446744073709551616 := ⟨_, rfl⟩
  obtain ⟨pl, hpl⟩ : ∃ z, z = p % 18446744073709551616 := ⟨_, rfl⟩
  obtain ⟨rh, hrh⟩ : ∃ z, z = r / 18446744073709551616 := ⟨_, rfl⟩
  obtain ⟨rl, hrl⟩ : ∃ z, z = r % 18446744073709551616 := ⟨_, rfl⟩
  obtain ⟨dh, hdh⟩ : ∃ z, z = (p - r) / 18446744073709551616 := ⟨_, rfl⟩
  obtain ⟨dl, hdl⟩ : ∃ z, z = (p - r) % 18446744073709551616 := ⟨_, rfl⟩
  have k0 : (0 : Int) ≤ ph := by omega
  have k1 : (0 : Int) ≤ pl := by omega
  have k2 : (0 : Int) ≤ rl := by omega
  have k3 : (pl : Int) < 18446744073709551616 := by omega
  have k4 : (rl : Int) < 18446744073709551616 := by omega
  by_cases h0 : r = 0
  · subst h0
    have hrh0 : rh = 0 := by omega
    have hrl0 : rl = 0 := by omega
    subst hrh0 hrl0
    rw [numD, numD, numD, ← hph, ← hpl, ← hrh, ← hrl, ← hdh, ← hdl]
    have e1 : (pl : Int) % 18446744073709551616 = (pl : Int) := by omega
    have e2 : (pl : Int) / 18446744073709551616 = 0 := by omega
    have e3 : IntKind.u64.wrap (ph : Int) = (ph : Int) := wrapN ph (by omega)
    have e4 : dh = ph := by omega
    have e5 : dl = pl := by omega
    refine start hC (nf := N107_wide_sum) rfl rfl ?_
    simp [N107_wide_sum, k3, e1, e2, e3]
    refine callW_of (signed_c hC ph pl false) (.inl rfl) ?_
    simp [e4, e5]
  · have hne : decide (r ≠ 0) = true := by simp [h0]
    rw [hne, numD, numD, numD, ← hph, ← hpl, ← hrh, ← hrl, ← hdh, ← hdl]
    have c1 : ¬ (ph : Int) < rh := by omega
    have c2 : (ph : Int) = rh → ¬ (pl : Int) < rl := by omega
    have e1 : ((pl : Int) - rl) % 18446744073709551616 = (dl : Int) := by omega
    have e2 : IntKind.u64.wrap ((ph : Int) - rh) = ((ph - rh : Nat) : Int) := uw (by omega) (by omega)
    have e3 : IntKind.u64.wrap (((ph - rh : Nat) : Int) - (if pl < rl then 1 else 0)) = (dh : Int) := by
      split <;> exact uw (by omega) (by omega)
    refine start hC (nf := N107_wide_sum) rfl rfl ?_
    simp [N107_wide_sum, c1, k3, k4, e1, e2]
    refine brB_of (fun c => ?_) (fun c => ?_) <;> simp at c <;> simp [c]
    · have c3 := c2 (by omega)
      refine brB_of (fun c4 => ?_) (fun c4 => ?_) <;> simp at c4 <;> simp [c4]
      · omega
      have hd0 : dh = 0 := by omega
      have c5 : ¬ pl < rl := by omega
      have hz : IntKind.u64.wrap 0 = 0 := wrapN 0 (by omega)
      simp [k3, k4, e1, hz, c5]
      refine callW_of (signed_c hC 0 dl false) (.inl rfl) ?_
      simp [hd0]
    · simp [k3, k4, e1, e2]
      rw [e3]
      refine callW_of (signed_c hC dh dl false) (.inl rfl) ?_
      simp
end Go.Gv

set_option linter.unusedSimpArgs false
namespace Go.Gv
theorem numD_ex (p : Nat) : ∃ a b : Int, numD p false = .agg [.int .u64 a, .int .u64 b, .bool false] := ⟨_, _, rfl⟩
theorem numD_ex2 (p : Nat) (n : Bool) : ∃ a b : Int, numD p n = .agg [.int .u64 a, .int .u64 b, .bool n] := ⟨_, _, rfl⟩
theorem wiD_ex (p : Nat) : ∃ a b : Int, wiD p = .agg [.int .i64 a, .int .i64 b] := ⟨_, _, rfl⟩
variable {C : CC} (hC : Closed prog C)
include hC
theorem Product_c (x y : Nat) (hx : x < 9223372036854775808) (hy : y < 9223372036854775808) (h : x * y < 1329227995784915872903807060280344576) : C 99 [.int .i64 x, .int .i64 y] (.tup [wiD (x * y), .int .i64 0]) [] := by
  have k1 := wtimes_c hC x y hx hy
  have k2 := placed_c hC (x * y) h
  obtain ⟨a, b, e1⟩ := numD_ex (x * y)
  obtain ⟨c, d, e2⟩ := wiD_ex (x * y)
  rw [e1] at k1 k2
  rw [e2] at k2 ⊢
  refine start hC (nf := N99_wide_Product) rfl rfl ?_
  simp [N99_wide_Product]
  refine callW_of k1 (.inl rfl) ?_
  simp
  refine callW_of k2 (.inr rfl) ?_
  simp
theorem Int_c (p : Nat) (h : p < 9223372036854775808) : C 101 [wiD p] (.tup [.int .i64 p, .int .i64 0]) [] := by
  have k1 := wvalid_c hC p (by omega)
  have k2 := value_c hC p (by omega)
  have e1 : numD p false = .agg [.int .u64 0, .int .u64 p, .bool false] := by
    rw [numD, show p / 18446744073709551616 = 0 by omega, show p % 18446744073709551616 = p by omega]; rfl
  obtain ⟨c, d, e2⟩ := wiD_ex p
  rw [e1] at k2
  rw [e2] at k1 k2 ⊢
  refine start hC (nf := N101_wide_Int) rfl rfl ?_
  simp [N101_wide_Int]
  refine callW_of k1 (.inl rfl) ?_
  simp
  refine callW_of k2 (.inl rfl) ?_
  simp
  refine callW_of (whole_c hC p h) (.inl rfl) ?_
  simp
theorem Sub_c (p r : Nat) (hr : r ≤ p) (h : p < 1329227995784915872903807060280344576) : C 100 [wiD p, wiD r] (.tup [wiD (p - r), .int .i64 0]) [] := by
  have k1 := wvalid_c hC p h
  have k2 := wvalid_c hC r (by omega)
  have k3 := value_c hC p h
  have k4 := value_c hC r (by omega)
  have k5 := minus_c hC r
  have k6 := sum_c hC p r hr h
  have k7 := placed_c hC (p - r) (by omega)
  obtain ⟨a1, a2, e1⟩ := wiD_ex p
  obtain ⟨b1, b2, e2⟩ := wiD_ex r
  obtain ⟨c1, c2, e3⟩ := wiD_ex (p - r)
  obtain ⟨d1, d2, e4⟩ := numD_ex p
  obtain ⟨f1, f2, e5⟩ := numD_ex r
  obtain ⟨g1, g2, e6⟩ := numD_ex2 r (decide (r ≠ 0))
  obtain ⟨i1, i2, e7⟩ := numD_ex (p - r)
  obtain ⟨z, hz⟩ : ∃ z, z = decide (r ≠ 0) := ⟨_, rfl⟩
  rw [← hz] at k5 k6 e6
  rw [e1] at k1 k3 ⊢
  rw [e2] at k2 k4 ⊢
  rw [e3] at k7 ⊢
  rw [e4] at k3 k6
  rw [e5] at k4 k5
  rw [e6] at k5 k6
  rw [e7] at k6 k7
  refine start hC (nf := N100_wide_Sub) rfl rfl ?_
  simp [N100_wide_Sub]
  refine callW_of k1 (.inl rfl) ?_
  simp
  refine callW_of k2 (.inl rfl) ?_
  simp
  refine callW_of k3 (.inl rfl) ?_
  simp
  refine callW_of k4 (.inl rfl) ?_
  simp
  refine callW_of k5 (.inl rfl) ?_
  simp
  refine callW_of k6 (.inl rfl) ?_
  simp
  refine callW_of k7 (.inr rfl) ?_
  simp
  exact indW_of (by decide +kernel)
theorem Scale_c (u a d : Nat) (hu : u < 4503599627370496) (ha : a < d) (hd : d < 4503599627370496) : C 98 [.int .i64 u, .int .i64 a, .int .i64 d] (.tup [.int .i64 (u * a / d : Nat), .int .i64 ((u * a + d - 1) / d : Nat), .int .i64 0]) [] := by
  have h1 : u * a ≤ u * d := Nat.mul_le_mul_left _ (by omega)
  have h1' : u * d = d * u := Nat.mul_comm _ _
  have h2 : u * a / d ≤ u := Nat.le_of_lt_succ (Nat.div_lt_of_lt_mul (by rw [Nat.succ_eq_add_one, Nat.mul_add]; omega))
  have h3 : (u * a + d - 1) / d ≤ u := Nat.le_of_lt_succ (Nat.div_lt_of_lt_mul (by rw [Nat.succ_eq_add_one, Nat.mul_add]; omega))
  have h4 : u * a / 18446744073709551616 < d := by
    have h5 : u * d ≤ 4503599627370496 * d := Nat.mul_le_mul_right _ (by omega)
    omega
  have k1 := wtimes_c hC u a (by omega) (by omega)
  have k2 := quotient_c hC (u * a) d false (u * a / d) (by omega) h4 (by omega) rfl (by omega)
  have k3 := quotient_c hC (u * a) d true ((u * a + d - 1) / d) (by omega) h4 (by omega) rfl (by omega)
  obtain ⟨q1, e1⟩ : ∃ q, q = u * a / d := ⟨_, rfl⟩
  obtain ⟨q2, e2⟩ : ∃ q, q = (u * a + d - 1) / d := ⟨_, rfl⟩
  obtain ⟨a1, a2, e3⟩ := numD_ex (u * a)
  rw [e3] at k1 k2 k3
  rw [← e1] at k2 ⊢
  rw [← e2] at k3 ⊢
  have hd0 : ¬ (d : Int) = 0 := by omega
  clear h1 h1' h2 h3 h4 e1 e2 e3
  refine start hC (nf := N98_wide_Scale) rfl rfl ?_
  simp [N98_wide_Scale]
  refine brB_of (fun c => ?_) (fun c => ?_) <;> simp at c <;> simp [c]
  · omega
  refine callW_of k1 (.inr rfl) ?_
  simp
  refine callW_of k2 (.inl rfl) ?_
  simp
  refine callW_of k3 (.inl rfl) ?_
  simp
end Go.Gv

set_option linter.unusedSimpArgs false
namespace Go.Gv
def posK (t : List (Int × Int)) (x : Int) : Nat := t.findIdx fun k => decide (x ≤ k.1)
def atK (t : List (Int × Int)) (x : Int) : Bool := decide (posK t x < t.length) && decide (t[posK t x]!.1 = x)
def betK (a b : Int × Int) (x : Int) : Int × Int × Int := (a.2 + (b.2 - a.2) * (x - a.1) / (b.1 - a.1), (b.2 - a.2) * (x - a.1) % (b.1 - a.1), b.1 - a.1)
def pieceF (t : List (Int × Int)) (x : Int) : Int × Int × Int :=
  if atK t x || decide (posK t x = 0) then (t[posK t x]!.2, 0, 1)
  else if posK t x = t.length then (t[posK t x - 1]!.2, 0, 1)
  else betK t[posK t x - 1]! t[posK t x]! x
theorem posK_le (t : List (Int × Int)) (x : Int) : posK t x ≤ t.length := List.findIdx_le_length
theorem posK_lt {t : List (Int × Int)} {x : Int} {j : Nat} (h : j < posK t x) (hl : j < t.length) : t[j].1 < x := by
  have := List.not_of_lt_findIdx h
  simp at this
  exact this
theorem posK_ge {t : List (Int × Int)} {x : Int} (h : posK t x < t.length) : x ≤ t[posK t x].1 := by
  have h2 := List.findIdx_getElem (w := h)
  exact of_decide_eq_true h2
theorem posK_of_le {t : List (Int × Int)} {x : Int} {j : Nat} (hl : j < t.length) (h : x ≤ t[j].1) : posK t x ≤ j := by
  apply Nat.le_of_not_lt
  intro hj
  have := posK_lt hj hl
  omega
theorem valid_le {t : List (Int × Int)} (h : tableValid t = true) {j i : Nat} (hi : i < t.length) (hj : j ≤ i) : t[j].1 ≤ t[i].1 := by
  rcases Nat.lt_or_eq_of_le hj with h1 | rfl
  · have := valid_asc h j i hi h1; omega
  · exact Int.le_refl _
theorem posK_of_lt {t : List (Int × Int)} (hv : tableValid t = true) {x : Int} {j : Nat} (hl : j < t.length) (h : t[j].1 < x) : j < posK t x := by
  apply Nat.lt_of_not_le
  intro hj
  have h1 := posK_ge (t := t) (x := x) (by omega)
  have h2 := valid_le hv hl hj
  omega
theorem between_facts {t : List (Int × Int)} {x : Int} (h : tableValid t = true) (h0 : posK t x ≠ 0) (h1 : posK t x < t.length) (h2 : atK t x = false) :
    ∃ k u a d : Nat, posK t x = k + 1 ∧ k + 1 < t.length ∧ ∃ (g0 : k < t.length) (g1 : k + 1 < t.length), t[k + 1].2 - t[k].2 = u ∧ x - t[k].1 = a ∧ t[k + 1].1 - t[k].1 = d ∧ u < 4503599627370496 ∧ 0 < a ∧ a < d ∧ d < 4503599627370496 ∧ -1125899906842624 ≤ t[k].2 ∧ t[k].2 ≤ 1125899906842624 ∧ t[k].2 + u ≤ 1125899906842624 ∧ t[posK t x - 1]! = t[k] ∧ t[posK t x]! = t[k + 1] ∧ -1125899906842624 ≤ t[k].1 ∧ t[k].1 ≤ 1125899906842624 ∧ t[k + 1].1 ≤ 1125899906842624 := by
  obtain ⟨k, hk⟩ : ∃ k, posK t x = k + 1 := ⟨posK t x - 1, by omega⟩
  have hlt : t[k].1 < x := posK_lt (by omega) (by omega)
  have hge := posK_ge h1
  have e1 : t[posK t x]! = t[posK t x] := getElem!_pos t _ h1
  simp only [atK, h1, decide_true, Bool.true_and, decide_eq_false_iff_not, e1] at h2
  rw [hk] at h1
  simp only [hk] at hge h2 e1
  obtain ⟨f1, f2, f3⟩ := valid_ok h (show k < t.length by omega)
  obtain ⟨f4, f5, f6⟩ := valid_ok h h1
  have f7 := f6 k rfl
  simp only [fits, Bool.and_eq_true, decide_eq_true_eq] at f1 f2 f4 f5
  refine ⟨k, (t[k + 1].2 - t[k].2).toNat, (x - t[k].1).toNat, (t[k + 1].1 - t[k].1).toNat, hk, h1, by omega, h1, by omega, by omega, by omega, by omega, by omega, by omega, by omega, by omega, by omega, by omega, ?_, ?_, by omega, by omega, by omega⟩
  · rw [hk]; exact getElem!_pos t k (by omega)
  · rw [hk]; exact e1
theorem betN {p q : Int × Int} {u a d : Nat} {x : Int} (h1 : q.2 - p.2 = u) (h2 : x - p.1 = a) (h3 : q.1 - p.1 = d) : betK p q x = (p.2 + ((u * a / d : Nat) : Int), ((u * a % d : Nat) : Int), (d : Int)) := by
  simp only [betK, h1, h2, h3]
  push_cast
  rfl
variable {C : CC} (hC : Closed prog C)
include hC
theorem find_c (b : Bool) (t : List (Int × Int)) (x : Int) (h : tableValid t = true) : C 96 [slx b (t.map knD), .int .i64 x, .fn 97 []] (.tup [.int .i64 (posK t x), .bool (atK t x)]) [] := by
  obtain ⟨l1, l2⟩ := valid_len h
  have hpl := posK_le t x
  obtain ⟨n, hn⟩ : ∃ n, n = posK t x := ⟨_, rfl⟩
  obtain ⟨r, hr⟩ : ∃ r, r = atK t x := ⟨_, rfl⟩
  have hlt : ∀ j, (hj : j < t.length) → t[j].1 < x → j < n := fun j hj h1 => hn ▸ posK_of_lt h hj h1
  have hle : ∀ j, (hj : j < t.length) → x ≤ t[j].1 → n ≤ j := fun j hj h1 => hn ▸ posK_of_le hj h1
  rw [← hn] at hpl ⊢
  rw [← hr]
  rw [atK, ← hn] at hr
  refine start hC (nf := N96_slices_BinarySearchFunc_api_Table_api_Knot_int) rfl rfl ?_
  simp [N96_slices_BinarySearchFunc_api_Table_api_Knot_int]
  refine loop_of (Nat × Nat) (fun s => [(0, slx b (t.map knD)), (1, .int .i64 x), (2, .fn 97 []), (8, .int .i64 t.length), (9, .int .i64 s.1), (10, .int .i64 s.2)]) (fun s => s.1 ≤ n ∧ n ≤ s.2 ∧ s.2 ≤ t.length) (fun s => s.2 - s.1) (0, t.length) (by simp; omega) (by simp) ?_
  rintro ⟨i, j⟩ ⟨h1, h2, h3⟩
  simp only at h1 h2 h3
  simp
  refine brB_of (fun c => ?_) (fun c => ?_) <;> simp [c] <;> simp at c
  · obtain ⟨m, hm⟩ : ∃ m, m = (i + j) / 2 := ⟨_, rfl⟩
    have e1 : IntKind.wrap .i64 ((i : Int) + (j : Int)) = ((i + j : Nat) : Int) := wrap_i64 (by omega) (by omega)
    obtain ⟨s, hs⟩ : ∃ s, s = i + j := ⟨_, rfl⟩
    rw [← hs] at e1 hm
    have e2 : Int.fdiv (s : Int) (2 ^ min 1 IntKind.u64.bits) = (m : Int) := by rw [hm]; exact shrN s 1
    have e3 : IntKind.wrap .i64 (m : Int) = (m : Int) := wrap_i64 rfl (by omega)
    have e4 : IntKind.wrap .i64 ((m : Int) + 1) = ((m + 1 : Nat) : Int) := wrap_i64 (by omega) (by omega)
    have hml : m < t.length := by omega
    simp [e1, wrapN s (by omega), e2, e3, hml]
    have hc := cmpKnot_c hC t[m] x
    simp [knD] at hc ⊢
    refine callW_of hc (.inl rfl) ?_
    by_cases hmn : t[m].1 < x
    · have := hlt m hml hmn
      simp [hmn, e4]
      exact ⟨m + 1, j, ⟨by omega, h2, h3⟩, by omega, by omega, by omega⟩
    · have := hle m hml (by omega)
      have hz : ¬ (if x < t[m].1 then (1 : Int) else 0) < 0 := by split <;> omega
      simp [hmn, hz]
      exact ⟨i, m, ⟨by omega, by omega, by omega⟩, by omega, by omega, by omega⟩
  · have : i = n := by omega
    subst this
    refine brB_of (fun c2 => ?_) (fun c2 => ?_) <;> simp at c2 <;> simp [c2]
    · have hc := cmpKnot_c hC t[i] x
      have hge : ¬ t[i].1 < x := fun e => by have := hlt i c2 e; omega
      have e1 : t[i]! = t[i] := getElem!_pos t i c2
      simp [knD] at hc ⊢
      refine callW_of hc (.inl rfl) ?_
      simp [hge, hr, c2, e1]
      omega
    · have : ¬ i < t.length := by omega
      simp [hr, this]
set_option maxHeartbeats 4000000 in
theorem pieceG_c (b : Bool) (t : List (Int × Int)) (x : Int) (h : tableValid t = true) : C 90 [slx b (t.map knD), .int .i64 x] (.tup [.int .i64 (pieceF t x).1, .int .i64 (pieceF t x).2.1, .int .i64 (pieceF t x).2.2]) [] := by
  obtain ⟨l1, l2⟩ := valid_len h
  have hpl := posK_le t x
  have hk := find_c hC b t x h
  obtain ⟨p1, hp1⟩ : ∃ z, z = (pieceF t x).1 := ⟨_, rfl⟩
  obtain ⟨p2, hp2⟩ : ∃ z, z = (pieceF t x).2.1 := ⟨_, rfl⟩
  obtain ⟨p3, hp3⟩ : ∃ z, z = (pieceF t x).2.2 := ⟨_, rfl⟩
  rw [← hp1, ← hp2, ← hp3]
  unfold pieceF at hp1 hp2 hp3
  refine start hC (nf := N90_table_piece) rfl rfl ?_
  simp [N90_table_piece]
  refine callW_of hk (.inl rfl) ?_
  cases ha : atK t x
  · simp
    refine brB_of (fun c => ?_) (fun c => ?_) <;> simp at c <;> simp [c]
    · have h0 : 0 < t.length := by omega
      have e0 : t[0]! = t[0] := getElem!_pos t 0 h0
      rw [if_pos (by simp [c]), c, e0] at hp1 hp2 hp3
      simp [h0, knD, hp1, hp2, hp3]
    refine brB_of (fun c2 => ?_) (fun c2 => ?_) <;> simp at c2 <;> simp [c2]
    · obtain ⟨n, hn⟩ : ∃ n, n + 1 = t.length := ⟨t.length - 1, by omega⟩
      have e1 : IntKind.wrap .i64 ((t.length : Int) - 1) = (n : Int) := wrap_i64 (by omega) (by omega)
      have hnl : n < t.length := by omega
      have e0 : t[posK t x - 1]! = t[n] := by rw [show posK t x - 1 = n by omega]; exact getElem!_pos t n hnl
      rw [if_neg (by simp [ha, c]), if_pos (by omega), e0] at hp1 hp2 hp3
      simp [e1, hnl, knD, hp1, hp2, hp3]
    · obtain ⟨k, u, a, d, q1, q2, g0, g1, r1, r2, r3, r4, r5, r6, r7, r8, r9, r10, s1, s2, r11, r12, r13⟩ := between_facts h c (by omega) ha
      rw [if_neg (by simp [ha, c]), if_neg (by omega), s1, s2, betN r1 r2 r3] at hp1 hp2 hp3
      simp only at hp1 hp2 hp3
      have ew1 : IntKind.wrap .i64 (k : Int) = (k : Int) := wrap_i64 rfl (by omega)
      have ew2 : IntKind.wrap .i64 (t[k + 1].2 - t[k].2) = (u : Int) := wrap_i64 r1 (by omega)
      have ew3 : IntKind.wrap .i64 (x - t[k].1) = (a : Int) := wrap_i64 r2 (by omega)
      have ew4 : IntKind.wrap .i64 (t[k + 1].1 - t[k].1) = (d : Int) := wrap_i64 r3 (by omega)
      have b1 : u * a < 1329227995784915872903807060280344576 := by
        have := Nat.mul_le_mul (show u ≤ 4503599627370496 by omega) (show a ≤ 4503599627370496 by omega)
        omega
      have b2 : u * a / d * d ≤ u * a := Nat.div_mul_le_self _ _
      have b3 : u * a - u * a / d * d = u * a % d := by
        have := Nat.div_add_mod' (u * a) d
        omega
      have b4 : u * a % d < d := Nat.mod_lt _ (by omega)
      have b5 : u * a / d ≤ u := by
        have h1 : u * a ≤ u * d := Nat.mul_le_mul_left _ (by omega)
        have h1' : u * d = d * u := Nat.mul_comm _ _
        exact Nat.le_of_lt_succ (Nat.div_lt_of_lt_mul (by rw [Nat.succ_eq_add_one, Nat.mul_add]; omega))
      have k1 := Scale_c hC u a d r4 r6 r7
      have k2 := Product_c hC u a (by omega) (by omega) b1
      have k3 := Product_c hC (u * a / d) d (by omega) (by omega) (by omega)
      have k4 := Sub_c hC (u * a) (u * a / d * d) b2 b1
      have k5 := Int_c hC (u * a % d) (by omega)
      rw [b3] at k4
      obtain ⟨v1, v2, f1⟩ := wiD_ex (u * a)
      obtain ⟨v3, v4, f2⟩ := wiD_ex (u * a / d * d)
      obtain ⟨v5, v6, f3⟩ := wiD_ex (u * a % d)
      rw [f1] at k2 k4
      rw [f2] at k3 k4
      rw [f3] at k4 k5
      clear b1 b2 b3 f1 f2 f3
      obtain ⟨q, eq⟩ : ∃ q, q = u * a / d := ⟨_, rfl⟩
      obtain ⟨q', eq'⟩ : ∃ q, q = (u * a + d - 1) / d := ⟨_, rfl⟩
      obtain ⟨m, em⟩ : ∃ q, q = u * a % d := ⟨_, rfl⟩
      rw [← eq] at k1 k3 b5 hp1
      rw [← eq'] at k1
      rw [← em] at k5 hp2
      have ew5 : IntKind.wrap .i64 (t[k].2 + (q : Int)) = t[k].2 + (q : Int) := wrap_i64 rfl (by omega)
      simp [ew1, q1, g0, g1, knD]
      refine ⟨indW_of (by decide +kernel), ?_⟩
      simp [ew2, ew3, ew4]
      refine ⟨indW_of (by decide +kernel), ?_⟩
      refine callW_of k1 (.inl rfl) ?_
      simp
      refine callW_of k2 (.inr rfl) ?_
      simp
      refine callW_of k3 (.inr rfl) ?_
      simp
      refine callW_of k4 (.inr rfl) ?_
      simp
      refine callW_of k5 (.inl rfl) ?_
      simp [ew5, hp1, hp2, hp3]
  · have hlt : posK t x < t.length := by simp [atK] at ha; exact ha.1
    have e0 : t[posK t x]! = t[posK t x] := getElem!_pos t _ hlt
    rw [if_pos (by simp [ha]), e0] at hp1 hp2 hp3
    simp [hlt, knD, hp1, hp2, hp3]
theorem FloorG_c (b : Bool) (t : List (Int × Int)) (x : Int) (h : tableValid t = true) : C 73 [slx b (t.map knD), .int .i64 x] (.tup [.int .i64 (pieceF t x).1, .int .i64 0]) [] := by
  refine start hC (nf := N73_table_Floor) rfl rfl ?_
  simp [N73_table_Floor]
  refine callW_of (tableValid_c hC b t) (.inl rfl) ?_
  simp [h]
  refine callW_of (pieceG_c hC b t x h) (.inl rfl) ?_
  simp
end Go.Gv

set_option linter.unusedSimpArgs false
namespace Go.Gv
theorem conv_last {s : Sec} (h : secValid s = true) : tableValid s.conv = true ∧ (lastK s.conv).1 = s.height ∧ 0 ≤ (lastK s.conv).2 ∧ (lastK s.conv).2 ≤ 1099511627776 := by
  simp only [secValid, curveOk, Bool.and_eq_true, decide_eq_true_eq, beq_iff_eq] at h
  obtain ⟨_, ⟨⟨hv, h0⟩, h1⟩, h2⟩ := h
  obtain ⟨l1, l2⟩ := valid_len hv
  have hp : ∀ i (hi : i < s.conv.length), 0 ≤ s.conv[i].2 := by
    intro i
    induction i with
    | zero => intro hi; have := h0.2; rw [getElem!_pos s.conv 0 hi] at this; omega
    | succ i ih =>
      intro hi
      have h3 := ((valid_ok hv hi).2.2 i rfl).2
      have := ih (by omega)
      omega
  obtain ⟨n, hn⟩ : ∃ n, n + 1 = s.conv.length := ⟨s.conv.length - 1, by omega⟩
  refine ⟨hv, h1, ?_, h2⟩
  rw [lastK_get hn]
  exact hp n (by omega)
theorem cap_lt {k f : Nat} (hk : k ≤ 1099511627776) (hf : f ≤ 4194304) : k * k * f ≤ 5070602400912917605986812821504 := by
  have h1 := Nat.mul_le_mul hk hk
  have h2 := Nat.mul_le_mul h1 hf
  exact h2
variable {C : CC} (hC : Closed prog C)
include hC
end Go.Gv

set_option linter.unusedSimpArgs false
namespace Go.Gv
def bis (p : Nat → Bool) : Nat → Nat → Nat → Nat
  | 0, lo, _ => lo
  | f + 1, lo, hi => if lo < hi then (if p ((lo + hi) / 2) then bis p f lo ((lo + hi) / 2) else bis p f ((lo + hi) / 2 + 1) hi) else lo
theorem valid_val {t : List (Int × Int)} (h : tableValid t = true) : ∀ {i j : Nat} (hi : i < t.length) (hj : j ≤ i), t[j].2 ≤ t[i].2 := by
  intro i
  induction i with
  | zero => intro j hi hj; have : j = 0 := by omega
            subst this; exact Int.le_refl _
  | succ i ih =>
    intro j hi hj
    rcases Nat.lt_or_eq_of_le hj with h1 | rfl
    · have h2 := ((valid_ok h hi).2.2 i rfl).2
      have := ih (by omega) (show j ≤ i by omega)
      omega
    · exact Int.le_refl _
theorem pieceF_knots {t : List (Int × Int)} (h : tableValid t = true) (x : Int) : ∃ i j : Nat, ∃ (hi : i < t.length) (hj : j < t.length), t[i].2 ≤ (pieceF t x).1 ∧ (pieceF t x).1 ≤ t[j].2 := by
  obtain ⟨l1, l2⟩ := valid_len h
  have hpl := posK_le t x
  unfold pieceF
  cases ha : atK t x
  · by_cases c : posK t x = 0
    · have h0 : 0 < t.length := by omega
      rw [if_pos (by simp [c]), c, getElem!_pos t 0 h0]
      exact ⟨0, 0, h0, h0, Int.le_refl _, Int.le_refl _⟩
    rw [if_neg (by simp [c])]
    by_cases c2 : posK t x = t.length
    · obtain ⟨n, hn⟩ : ∃ n, n + 1 = t.length := ⟨t.length - 1, by omega⟩
      have hnl : n < t.length := by omega
      rw [if_pos c2, show posK t x - 1 = n by omega, getElem!_pos t n hnl]
      exact ⟨n, n, hnl, hnl, Int.le_refl _, Int.le_refl _⟩
    · obtain ⟨k, u, a, d, q1, q2, g0, g1, r1, r2, r3, r4, r5, r6, r7, r8, r9, r10, s1, s2, r11, r12, r13⟩ := between_facts h c (by omega) ha
      rw [if_neg c2, s1, s2, betN r1 r2 r3]
      have b5 : u * a / d ≤ u := by
        have h1 : u * a ≤ u * d := Nat.mul_le_mul_left _ (by omega)
        have h1' : u * d = d * u := Nat.mul_comm _ _
        exact Nat.le_of_lt_succ (Nat.div_lt_of_lt_mul (by rw [Nat.succ_eq_add_one, Nat.mul_add]; omega))
      generalize u * a / d = q at b5
      exact ⟨k, k + 1, g0, g1, by simp only; omega, by simp only; omega⟩
  · have hlt : posK t x < t.length := by simp [atK] at ha; exact ha.1
    rw [if_pos (by simp), getElem!_pos t _ hlt]
    exact ⟨_, _, hlt, hlt, Int.le_refl _, Int.le_refl _⟩
theorem pieceF_range {t : List (Int × Int)} (h : tableValid t = true) (x : Int) : t[0]!.2 ≤ (pieceF t x).1 ∧ (pieceF t x).1 ≤ (lastK t).2 := by
  obtain ⟨l1, l2⟩ := valid_len h
  obtain ⟨i, j, hi, hj, h1, h2⟩ := pieceF_knots h x
  obtain ⟨n, hn⟩ : ∃ n, n + 1 = t.length := ⟨t.length - 1, by omega⟩
  have h0 : 0 < t.length := by omega
  rw [lastK_get hn, getElem!_pos t 0 h0]
  have k1 := valid_val h hi (show 0 ≤ i by omega)
  have k2 := valid_val h (show n < t.length by omega) (show j ≤ n by omega)
  omega
def carF (s : Sec) (depth fall len : Int) : Nat := rootN ((pieceF s.conv depth).1.toNat * (pieceF s.conv depth).1.toNat * fall.toNat / len.toNat)
def enoughD (s : Sec) (flow fall len : Int) (m : Nat) : Bool := decide (flow ≤ (carF s m fall len : Int))
def leastD (s : Sec) (flow fall len : Int) : Nat := bis (enoughD s flow fall len) 40 0 (s.height.toNat + 1)
def depthF (s : Sec) (flow fall len : Int) : Int × Int :=
  if secValid s then (if 0 ≤ flow ∧ flow ≤ 1099511627776 ∧ slopeOk fall len = true then (if s.height.toNat < leastD s flow fall len then (0, 28) else (leastD s flow fall len, 0)) else (0, 2)) else (0, 1)
theorem conv_any {s : Sec} (h : secValid s = true) (x : Int) : 0 ≤ (pieceF s.conv x).1 ∧ (pieceF s.conv x).1 ≤ 1099511627776 := by
  obtain ⟨h1, h2, h3, h4⟩ := conv_last h
  have hr := pieceF_range h1 x
  simp only [secValid, curveOk, Bool.and_eq_true, decide_eq_true_eq, beq_iff_eq] at h
  have h0 := h.2.1.1.2.2
  omega
variable {C : CC} (hC : Closed prog C)
include hC
theorem carriedG_c (s : Sec) (depth fall len : Int) (hv : secValid s = true) (hs : slopeOk fall len = true) : C 61 [.agg (secC s), .int .i64 depth, .int .i64 fall, .int .i64 len] (.tup [.int .i64 (carF s depth fall len), .int .i64 0]) [] := by
  obtain ⟨c1, _, _, _⟩ := conv_last hv
  obtain ⟨c3, c4⟩ := conv_any hv depth
  simp only [slopeOk, Bool.and_eq_true, decide_eq_true_eq] at hs
  have hF := FloorG_c hC s.convN s.conv depth c1
  obtain ⟨k, hk⟩ : ∃ k : Nat, (pieceF s.conv depth).1 = k := ⟨(pieceF s.conv depth).1.toNat, by omega⟩
  obtain ⟨f, rfl⟩ : ∃ f : Nat, fall = f := ⟨fall.toNat, by omega⟩
  obtain ⟨l, rfl⟩ : ∃ l : Nat, len = l := ⟨len.toNat, by omega⟩
  have hcap : carF s depth f l = rootN (k * k * f / l) := by simp [carF, hk]
  rw [hk] at hF
  rw [hcap]
  have hb := cap_lt (k := k) (f := f) (by omega) (by omega)
  have hb0 : k * k ≤ 1208925819614629174706176 := Nat.mul_le_mul (show k ≤ 1099511627776 by omega) (show k ≤ 1099511627776 by omega)
  have hb2 := Nat.div_le_self (k * k * f) l
  refine start hC (nf := N61_catalogue_carried) rfl rfl ?_
  simp [N61_catalogue_carried, secC]
  refine callW_of hF (.inl rfl) ?_
  simp
  refine callW_of (product_c hC k k (by omega) (by omega)) (.inl rfl) ?_
  have v : ∀ x, isV (wideD x) = true ∧ (∀ f : Nat → D, dpOk f (wideD x)) ∧ (∀ f : Nat → D, dp f (wideD x) = wideD x) ∧ ∀ ks, kill1 ks (wideD x) = wideD x := fun x => ⟨rfl, fun _ => trivial, fun _ => rfl, fun _ => by simp [wideD]⟩
  simp [v]
  refine callW_of (times_c hC (k * k) f (by omega) (by omega) (by omega)) (.inl rfl) ?_
  simp [v]
  refine callW_of (over_c hC (k * k * f) l (by omega) (by omega) (by omega)) (.inl rfl) ?_
  simp [v]
  refine callW_of (root_c hC (k * k * f / l)) (.inl rfl) ?_
  simp
end Go.Gv

set_option linter.unusedSimpArgs false
namespace Go.Gv
theorem pump_eq (l : List (Int × Int)) : (tableValid l && !(l.any fun k => !pumpOk k)) = curveR l := by
  by_cases hv : tableValid l = true
  · obtain ⟨l1, l2⟩ := valid_len hv
    obtain ⟨n, hn⟩ : ∃ n, n + 1 = l.length := ⟨l.length - 1, by omega⟩
    have h0 : 0 < l.length := by omega
    have hnl : n < l.length := by omega
    have hany : (!(l.any fun k => !pumpOk k)) = l.all pumpOk := by rw [Bool.eq_iff_iff]; simp
    rw [hany, curveR, hv, lastK_get hn, getElem!_pos l 0 h0, Bool.eq_iff_iff]
    simp only [Bool.true_and, List.all_eq_true, Bool.and_eq_true, decide_eq_true_eq]
    constructor
    · intro h
      have ha := h l[0] (List.getElem_mem h0)
      have hb := h l[n] (List.getElem_mem hnl)
      simp only [pumpOk, lowHigh, Bool.and_eq_true, decide_eq_true_eq] at ha hb
      omega
    · intro h k hk
      obtain ⟨i, hi, rfl⟩ := List.getElem_of_mem hk
      have a1 := valid_le hv hi (show 0 ≤ i by omega)
      have a2 := valid_le hv hnl (show i ≤ n by omega)
      have a3 := valid_val hv hi (show 0 ≤ i by omega)
      have a4 := valid_val hv hnl (show i ≤ n by omega)
      simp only [pumpOk, lowHigh, Bool.and_eq_true, decide_eq_true_eq]
      omega
  · simp [curveR, hv]
theorem linkR_eq (l : Lnk) : linkR l = linkOk l := by
  have hcur : ∀ x : List (Int × Int), decide (x.length = 0) = decide (x = []) := fun x => by
    rw [Bool.eq_iff_iff]; simp
  have hp := pump_eq l.curve
  unfold linkR linkOk kindR kindOk sameL plainF
  simp only [hcur]
  have l0 : lvlOk 0 = true := by decide
  by_cases h1 : l.kind = 1
  · simp [h1]
    ac_rfl
  by_cases h2 : l.kind = 2
  · by_cases hd : l.down = 0
    · simp [h2, hd, l0]
      ac_rfl
    · simp [h2, hd]
  by_cases h3 : l.kind = 3
  · by_cases hd : l.down = 0
    · simp [h3, hd, l0]
      ac_rfl
    · simp [h3, hd]
  by_cases h4 : l.kind = 4
  · simp [h4]
    rw [← hp]
    ac_rfl
  · simp [h1, h2, h3, h4]
end Go.Gv

set_option linter.unusedSimpArgs false
namespace Go.Gv
variable {C : CC} (hC : Closed prog C)
include hC
theorem rPos_c (n : Int) : C 507 [.int .i64 n] (.bool (lowHigh n (-16777216) 16777216)) [] := by
  refine start hC (nf := N507_ref26_position) rfl rfl ?_
  simp [N507_ref26_position, lowHigh]
  refine brB_of (fun h => ?_) (fun h => ?_) <;> simp at h <;> simp [h] <;> omega
theorem rShape_c (b : Bool) (t : List (Int × Int)) (hgt : Int) : C 508 [slx b (t.map knD), .int .i64 hgt] (.bool (curveOk t hgt 1125899906842624)) [] := by
  refine start hC (nf := N508_ref26_shape) rfl rfl ?_
  simp [N508_ref26_shape]
  refine callW_of (rTable_c hC b t) (.inl rfl) ?_
  cases hv : tableValid t
  · simp [curveOk, hv]
  obtain ⟨l1, l2⟩ := valid_len hv
  obtain ⟨n, hn⟩ : ∃ n, n + 1 = t.length := ⟨t.length - 1, by omega⟩
  have e1 : IntKind.wrap .i64 ((t.length : Int) - 1) = (n : Int) := wrap_i64 (by omega) (by omega)
  have hnl : n < t.length := by omega
  have h0 : 0 < t.length := by omega
  have e0 : t[0]! = t[0] := getElem!_pos t 0 h0
  rw [curveOk, lastK_get hn, e0, hv]
  simp [e1, hnl, h0, knD]
  refine brB_of (fun c => ?_) (fun c => ?_) <;> simp at c
  · simp [c, h0, knD]
    refine brB_of (fun c2 => ?_) (fun c2 => ?_) <;> simp at c2
    · simp [c2]
      refine brB_of (fun c3 => ?_) (fun c3 => ?_) <;> simp at c3 <;> simp [c3, c, c2]
    · simp [c2]
  · simp [c]
theorem nodR_c (n : Nod) : C 488 [.agg (nodC n)] (.bool (nodOk n)) [] := by
  have k1 := rIsName_c hC n.name
  have k2 := rPos_c hC n.x
  have k3 := rPos_c hC n.y
  have k4 := rLevel_c hC n.invert
  have k5 := rLevel_c hC n.ground
  obtain ⟨q, hq⟩ : ∃ q, q = nodOk n := ⟨_, rfl⟩
  rw [← hq]
  unfold nodOk at hq
  refine start hC (nf := N488_ref26_RightNode) rfl rfl ?_
  simp [N488_ref26_RightNode, nodC]
  refine callW_of k1 (.inl rfl) ?_
  cases h1 : isName n.name
  · simp [hq, h1]
  simp
  refine callW_of k2 (.inl rfl) ?_
  cases h2 : lowHigh n.x (-16777216) 16777216
  · simp [hq, h2]
  simp
  refine callW_of k3 (.inl rfl) ?_
  cases h3 : lowHigh n.y (-16777216) 16777216
  · simp [hq, h3]
  simp
  refine callW_of k4 (.inl rfl) ?_
  cases h4 : lvlOk n.invert
  · simp [hq, h4]
  simp
  refine callW_of k5 (.inl rfl) ?_
  cases h5 : lvlOk n.ground
  · simp [hq, h5]
  simp
  rw [h1, h2, h3, h4, h5] at hq
  simp only [Bool.true_and] at hq
  have b1 : -4194304 ≤ n.invert ∧ n.invert ≤ 4194304 := by simpa [lvlOk] using h4
  have b2 : -4194304 ≤ n.ground ∧ n.ground ≤ 4194304 := by simpa [lvlOk] using h5
  have e1 : IntKind.wrap .i64 (n.ground - n.invert) = n.ground - n.invert := wrap_i64 rfl (by omega)
  by_cases hk3 : n.kind = 3
  · rw [if_neg (by omega), if_pos hk3, outOk] at hq
    simp [hk3]
    refine brB_of (fun c1 => ?_) (fun c1 => ?_) <;> simp at c1
    · simp [c1]
      refine brB_of (fun c2 => ?_) (fun c2 => ?_) <;> simp at c2
      · cases c3 : n.prot
        · simp [hq, c1, c2, c3]
        · simp [hq, c2, c3]
      · simp [hq, c2]
    · have : ¬ n.invert ≤ n.ground := by omega
      simp [hq, this]
  · by_cases hk : n.kind = 1 ∨ n.kind = 2
    · rw [if_pos hk, storeOk] at hq
      have kb := rShape_c hC n.shapeN n.shape (n.ground - n.invert)
      rcases hk with hk | hk
      · simp [hk]
        refine brB_of (fun c1 => ?_) (fun c1 => ?_) <;> simp at c1
        · simp [c1, hq]
        have c1' : ¬ n.ground ≤ n.invert := by omega
        simp [c1', e1]
        refine callW_of kb (.inl rfl) ?_
        cases c2 : curveOk n.shape (n.ground - n.invert) 1125899906842624
        · simp [hq, c2]
        simp [hk]
        cases c3 : n.prot
        · simp [hq, c1', c2, c3, hk]
        · simp [hq, c3, hk]
          exact indW_of (by decide +kernel)
      · simp [hk]
        refine brB_of (fun c1 => ?_) (fun c1 => ?_) <;> simp at c1
        · simp [c1, hq]
        have c1' : ¬ n.ground ≤ n.invert := by omega
        simp [c1', e1]
        refine callW_of kb (.inl rfl) ?_
        cases c2 : curveOk n.shape (n.ground - n.invert) 1125899906842624
        · simp [hq, c2]
        simp [hk]
        cases c3 : n.prot
        · simp [hq, c1', c2, c3, hk]
        have hv : tableValid n.shape = true := by
          simp only [curveOk, Bool.and_eq_true] at c2
          exact c2.1.1.1
        obtain ⟨l1, l2⟩ := valid_len hv
        obtain ⟨m, hm⟩ : ∃ m, m + 1 = n.shape.length := ⟨n.shape.length - 1, by omega⟩
        have e2 : IntKind.wrap .i64 ((n.shape.length : Int) - 1) = (m : Int) := wrap_i64 (by omega) (by omega)
        have hml : m < n.shape.length := by omega
        have e3 := lastK_get hm
        by_cases c4 : 0 ≤ n.reserve
        · simp [hq, c1', c2, c3, c4, hk, e2, hml, knD, e3, lowHigh]
          exact indW_of (by decide +kernel)
        · simp [hq, c1', c2, c3, c4, hk, e2, hml, knD, e3, lowHigh]
          exact indW_of (by decide +kernel)
    · rw [if_neg hk, if_neg hk3] at hq
      have a1 : ¬ n.kind = 1 := fun e => hk (.inl e)
      have a2 : ¬ n.kind = 2 := fun e => hk (.inr e)
      simp [hk3, a1, a2, hq]
theorem rNode_c (b1 b2 : Bool) (ns : List Nod) (ls : List Lnk) (nm : List UInt8) (hn : ns.length < 2 ^ 62) : C 462 [.agg [slx b1 (ns.map nodC), slx b2 (ls.map lnkC)], .str nm] (.int .i64 (idxD (nodIs nm) ns)) [] := by
  refine start hC (nf := N462_ref26_FindNode) rfl rfl ?_
  simp [N462_ref26_FindNode]
  refine loop_of Nat (fun i => [(1, .str nm), (2, .ptr [slx b1 (ns.map nodC), slx b2 (ls.map lnkC)]), (5, .int .i64 i)]) (fun i => i ≤ ns.length ∧ ∀ (j : Nat) (h : j < ns.length), j < i → nodIs nm ns[j] = false) (fun i => ns.length - i) 0 (by simp) (by simp) ?_
  rintro i ⟨hi, hj⟩
  simp
  refine brB_of (fun h => ?_) (fun h => ?_) <;> simp [h] <;> simp at h
  · have hw : IntKind.wrap .i64 ((i : Int) + 1) = ((i + 1 : Nat) : Int) := wrap_i64 (by omega) (by omega)
    simp [h, nodC]
    refine brB_of (fun h1 => ?_) (fun h1 => ?_) <;> simp at h1 <;> simp [h1, hw]
    · rw [idxD_step hj h (by simpa [nodIs] using h1)]
    · refine ⟨i + 1, ⟨by omega, fun j hl hjj => ?_⟩, by omega, rfl⟩
      rcases Nat.lt_succ_iff_lt_or_eq.1 hjj with h2 | rfl
      · exact hj j hl h2
      · simpa [nodIs] using h1
  · rw [idxD_none (fun j hl => hj j hl (by omega))]
theorem rLink_c (b1 b2 : Bool) (ns : List Nod) (ls : List Lnk) (nm : List UInt8) (hn : ls.length < 2 ^ 62) : C 467 [.agg [slx b1 (ns.map nodC), slx b2 (ls.map lnkC)], .str nm] (.int .i64 (idxD (lnkIs nm) ls)) [] := by
  refine start hC (nf := N467_ref26_FindLink) rfl rfl ?_
  simp [N467_ref26_FindLink]
  refine loop_of Nat (fun i => [(1, .str nm), (2, .ptr [slx b1 (ns.map nodC), slx b2 (ls.map lnkC)]), (5, .int .i64 i)]) (fun i => i ≤ ls.length ∧ ∀ (j : Nat) (h : j < ls.length), j < i → lnkIs nm ls[j] = false) (fun i => ls.length - i) 0 (by simp) (by simp) ?_
  rintro i ⟨hi, hj⟩
  simp
  refine brB_of (fun h => ?_) (fun h => ?_) <;> simp [h] <;> simp at h
  · have hw : IntKind.wrap .i64 ((i : Int) + 1) = ((i + 1 : Nat) : Int) := wrap_i64 (by omega) (by omega)
    simp [h, lnkC]
    refine brB_of (fun h1 => ?_) (fun h1 => ?_) <;> simp at h1 <;> simp [h1, hw]
    · rw [idxD_step hj h (by simpa [lnkIs] using h1)]
    · refine ⟨i + 1, ⟨by omega, fun j hl hjj => ?_⟩, by omega, rfl⟩
      rcases Nat.lt_succ_iff_lt_or_eq.1 hjj with h2 | rfl
      · exact hj j hl h2
      · simpa [lnkIs] using h1
  · rw [idxD_none (fun j hl => hj j hl (by omega))]
theorem rEdges_c (b1 b2 : Bool) (ns : List Nod) (ls : List Lnk) (hv : netOk ns ls = true) : C 429 [.agg [slx b1 (ns.map nodC), slx b2 (ls.map lnkC)]] (.sl ((edgN ns ls).map edK)) [] := by
  obtain ⟨hl1, hl2⟩ := netOk_len hv
  refine start hC (nf := N429_ref26_Edges) rfl rfl ?_
  simp [N429_ref26_Edges]
  refine loop_of Nat (fun j => [(1, .ptr [slx b1 (ns.map nodC), slx b2 (ls.map lnkC)]), (3, .ref (.r 10048) 0 j), (10048, .blk 2 (edT (edgN ns ls) j)), (4, .int .i64 j)]) (fun j => j ≤ ls.length) (fun j => ls.length - j) 0 (by simp) (by simp) ?_
  rintro j hj
  simp
  refine brB_of (fun h => ?_) (fun h => ?_) <;> simp [h] <;> simp at h
  · have hw : IntKind.wrap .i64 ((j : Int) + 1) = ((j + 1 : Nat) : Int) := wrap_i64 (by omega) (by omega)
    obtain ⟨_, _, g1, g2⟩ := netOk_lnk hv h
    have k1 := rNode_c hC b1 b2 ns ls ls[j].src (by omega)
    have k2 := rNode_c hC b1 b2 ns ls ls[j].dst (by omega)
    have hjl : j < (edgN ns ls).length := by rw [edgN_len]; exact h
    have el := edT_len (es := edgN ns ls) (j := j) (by omega)
    simp [h, lnkC, el]
    refine callW_of k1 (.inl rfl) ?_
    simp [h, lnkC]
    refine callW_of k2 (.inl rfl) ?_
    simp [el]
    refine ⟨by omega, indW_of (by decide +kernel), j + 1, by omega, by omega, rfl, ?_, hw⟩
    have e2 : (edT (edgN ns ls) j).take j = edT (edgN ns ls) j := List.take_of_length_le (by omega)
    rw [e2, edT_succ hjl]
    congr 2
    simp only [edgN, List.getElem_map, edK, knD]
    rw [Int.toNat_of_nonneg g1, Int.toNat_of_nonneg g2]
  · have ej : j = ls.length := by omega
    subst ej
    have e0 := edT_end (edgN ns ls)
    have el := edT_len (es := edgN ns ls) (j := ls.length) (by rw [edgN_len]; exact Nat.le_refl _)
    rw [edgN_len] at e0
    simp [edT_V, el]
    rw [← e0, List.take_of_length_le (by omega)]
end Go.Gv

set_option linter.unusedSimpArgs false
namespace Go.Gv
variable {C : CC} (hC : Closed prog C)
include hC
theorem nEdgesF_c (b1 b2 : Bool) (ns : List Nod) (ls : List Lnk) (hv : netOk ns ls = true) : C 499 [.agg [slx b1 (ns.map nodC), slx b2 (ls.map lnkC)]] .any [.own 2 ((edgN ns ls).map edK)] := by
  obtain ⟨hl1, hl2⟩ := netOk_len hv
  refine startF hC (nf := N499_network_edges) rfl rfl ?_
  simp [N499_network_edges]
  refine loop_of Nat (fun j => [(1, .ptr [slx b1 (ns.map nodC), slx b2 (ls.map lnkC)]), (3, .ref (.r 10048) 0 j), (10048, .blk 2 (edT (edgN ns ls) j)), (7, slx b2 (ls.map lnkC)), (8, .int .i64 ls.length), (9, .int .i64 j)]) (fun j => j ≤ ls.length) (fun j => ls.length - j) 0 (by simp) (by simp) ?_
  rintro j hj
  simp
  refine brB_of (fun h => ?_) (fun h => ?_) <;> simp [h] <;> simp at h
  · have hw : IntKind.wrap .i64 ((j : Int) + 1) = ((j + 1 : Nat) : Int) := wrap_i64 (by omega) (by omega)
    obtain ⟨_, _, g1, g2⟩ := netOk_lnk hv h
    have k1 := node_c hC b1 b2 ns ls ls[j].src (by omega)
    have k2 := node_c hC b1 b2 ns ls ls[j].dst (by omega)
    have hjl : j < (edgN ns ls).length := by rw [edgN_len]; exact h
    have el := edT_len (es := edgN ns ls) (j := j) (by omega)
    simp [h, lnkC, el]
    refine callW_of k1 (.inl rfl) ?_
    simp
    refine callW_of k2 (.inl rfl) ?_
    simp [el]
    refine ⟨by omega, indW_of (by decide +kernel), j + 1, by omega, by omega, rfl, ?_, hw⟩
    have e2 : (edT (edgN ns ls) j).take j = edT (edgN ns ls) j := List.take_of_length_le (by omega)
    rw [e2, edT_succ hjl]
    congr 2
    simp only [edgN, List.getElem_map, edK, knD]
    rw [Int.toNat_of_nonneg g1, Int.toNat_of_nonneg g2]
  · have ej : j = ls.length := by omega
    subst ej
    have e0 := edT_end (edgN ns ls)
    have el := edT_len (es := edgN ns ls) (j := ls.length) (by rw [edgN_len]; exact Nat.le_refl _)
    rw [edgN_len] at e0
    simp [el, ← e0]
    exact ⟨fun r x y _ e c hc => by subst e; simp [edK, knD] at hc; rcases hc with rfl | rfl <;> rfl, (edgN_len ns ls).symm⟩
theorem gReach_c (hS : SlC C) {b b' : Bool} {n : Nat} {es : List Edg} (hn : n ≤ 300) (he : es.length ≤ 1000) (hg : inG n es) (fr : List Nat) (hf : ∀ s ∈ fr, s < n) (hl : fr.length ≤ 1000) : C 512 [.int .i64 n, slx b (es.map edK), slx b' (intL fr)] (.tup [.sl (boolA n (rB es fr)), .int .i64 0]) [] := by
  have k1 := gValid_c hC b n (es.map edI) (by simp; omega)
  rw [← edK_map] at k1
  have e1 : gOk n (es.map edI) = true := by
    unfold gOk
    simp only [Bool.and_eq_true, decide_eq_true_eq, Bool.not_eq_true', List.any_eq_false, List.length_map]
    refine ⟨⟨⟨by omega, by omega⟩, by omega⟩, fun e h => ?_⟩
    obtain ⟨x, hx, rfl⟩ := List.mem_map.1 h
    have := hg x hx
    simp [edBad, edI]
    omega
  rw [e1] at k1
  have k2 : ∀ x ∈ fr.map fun k : Nat => (k : Int), C 520 (.int .i64 x :: [.ptr [.int .i64 n]]) (.bool false) [] := fun x hx => by
    obtain ⟨k, hk, rfl⟩ := List.mem_map.1 hx
    have hk2 := hf k hk
    have k0 := is_c hC n k
    rw [show (decide ((0 : Int) ≤ k) && decide ((k : Int) < n)) = true by simp; omega] at k0
    refine start hC (nf := N520_digraph_Reach_1) rfl rfl ?_
    simp [N520_digraph_Reach_1]
    refine callW_of k0 (.inl rfl) ?_
    simp
  have k3 := hasInt_c hC (b := b') (xs := fr.map fun k : Nat => (k : Int)) (g := 520) (cs := [.ptr [.int .i64 n]]) (fun _ => false) (by simp; omega) k2
  rw [← intL_map] at k3
  have e3 : (fr.map fun k : Nat => (k : Int)).any (fun _ => false) = false := by simp
  rw [e3] at k3
  have k4 := next_c hC hS (b := b) hn he hg
  have k5 := reach_c hC (b := b') hn hg fr hf hl
  obtain ⟨R, hR⟩ : ∃ R, nxtD n es = .sl R := ⟨_, rfl⟩
  rw [hR] at k4 k5
  refine start hC (nf := N512_digraph_Reach) rfl rfl ?_
  simp [N512_digraph_Reach]
  refine callW_of k1 (.inl rfl) ?_
  simp [intL_len, show ¬ (1000 : Int) < fr.length by omega]
  refine callW_of k3 (.inl rfl) ?_
  simp
  refine callW_of k4 (.inr rfl) ?_
  simp
  refine callW_of k5 (.inr rfl) ?_
  simp
end Go.Gv

set_option linter.unusedSimpArgs false
namespace Go.Gv
def srcsA (n : Nat) (out : List Nat) : List (List D) := (List.range n).map fun v => [.bool (decide (v ∈ out))]
theorem srcsA_get {n v : Nat} (out : List Nat) (h : v < n) : (srcsA n out)[v]? = some [.bool (decide (v ∈ out))] := by simp [srcsA, h]
theorem srcsA_set {n : Nat} (out : List Nat) (v : Nat) : (srcsA n out).set v [.bool true] = srcsA n (out ++ [v]) := by
  unfold srcsA
  rw [set_rm]
  apply List.map_congr_left
  intro u _
  by_cases e : u = v <;> simp [e]
def lowR (es : List Edg) (out : List Nat) : Nat → Int
  | 0 => -1
  | v + 1 => if lowR es out v < 0 then (if !out.contains v && prOk es out v then (v : Int) else -1) else lowR es out v
theorem lowR_neg {es : List Edg} {out : List Nat} : ∀ {v : Nat}, lowR es out v < 0 → rdyL v es out = []
  | 0, _ => by simp [rdyL]
  | v + 1, h => by
    unfold lowR at h
    by_cases h1 : lowR es out v < 0
    · rw [if_pos h1] at h
      have ih := lowR_neg h1
      unfold rdyL at ih ⊢
      rw [List.range_succ, List.filter_append, ih]
      by_cases h2 : (!out.contains v && prOk es out v) = true
      · rw [if_pos h2] at h; omega
      · simp only [List.filter_cons, h2, List.filter_nil, List.append_nil]; rfl
    · rw [if_neg h1] at h
      exact absurd h h1
theorem lowR_pos {es : List Edg} {out : List Nat} : ∀ {v : Nat}, 0 ≤ lowR es out v → ∃ (i : Nat) (r : List Nat), lowR es out v = i ∧ rdyL v es out = i :: r ∧ i < v
  | 0, h => by simp [lowR] at h
  | v + 1, h => by
    by_cases h1 : lowR es out v < 0
    · have ih := lowR_neg h1
      unfold lowR at h ⊢
      rw [if_pos h1] at h ⊢
      by_cases h2 : (!out.contains v && prOk es out v) = true
      · rw [if_pos h2]
        refine ⟨v, [], rfl, ?_, by omega⟩
        unfold rdyL at ih ⊢
        rw [List.range_succ, List.filter_append, ih]
        simp only [List.filter_cons, h2, List.filter_nil, List.nil_append]; rfl
      · rw [if_neg h2] at h; omega
    · obtain ⟨i, r, e1, e2, e3⟩ := lowR_pos (v := v) (es := es) (out := out) (by omega)
      unfold lowR
      rw [if_neg h1]
      refine ⟨i, r ++ (([v]).filter fun u => !out.contains u && prOk es out u), e1, ?_, by omega⟩
      unfold rdyL at e2 ⊢
      rw [List.range_succ, List.filter_append, e2]
      rfl
def prT (es : List Edg) (out : List Nat) (v j : Nat) : Bool := prOk (es.take j) out v
theorem prT_succ {es : List Edg} {out : List Nat} {v j : Nat} (h : j < es.length) : prT es out v (j + 1) = (prT es out v j && !(decide (es[j].2 = v) && !decide (es[j].1 ∈ out))) := by
  unfold prT prOk
  rw [List.take_succ_eq_append_getElem h, List.all_append]
  congr 1
  by_cases a : es[j].2 = v <;> by_cases b : es[j].1 ∈ out <;> simp [a, b]
theorem prT_end (es : List Edg) (out : List Nat) (v : Nat) : prT es out v es.length = prOk es out v := by simp [prT]
variable {C : CC} (hC : Closed prog C)
include hC
theorem rValid_c (b1 b2 : Bool) (ns : List Nod) (ls : List Lnk) : C 458 [.agg [slx b1 (ns.map nodC), slx b2 (ls.map lnkC)]] (.bool (netOk ns ls)) [] := by
  obtain ⟨r, hr⟩ : ∃ r, r = netOk ns ls := ⟨_, rfl⟩
  rw [← hr]
  unfold netOk at hr
  refine start hC (nf := N458_ref26_Valid) rfl rfl ?_
  simp [N458_ref26_Valid]
  by_cases c : (300 : Int) < ns.length
  · simp [c, hr, show ¬ ns.length ≤ 300 by omega]
  by_cases c2 : (400 : Int) < ls.length
  · simp [c, c2, hr, show ¬ ls.length ≤ 400 by omega]
  simp [c, c2]
  rw [decide_eq_true (show ns.length ≤ 300 by omega), decide_eq_true (show ls.length ≤ 400 by omega)] at hr
  simp only [Bool.true_and] at hr
  have badN : ∀ i, i < ns.length → nodAt ns i = false → r = false := fun i hi h => by
    rw [hr, Bool.and_eq_false_iff]
    exact .inl (List.all_eq_false.2 ⟨i, by simpa using hi, by simp [h]⟩)
  have badL : ∀ i, i < ls.length → lnkAt ns ls i = false → r = false := fun i hi h => by
    rw [hr, Bool.and_eq_false_iff]
    exact .inr (List.all_eq_false.2 ⟨i, by simpa using hi, by simp [h]⟩)
  refine loop_of Nat (fun i => [(1, .ptr [slx b1 (ns.map nodC), slx b2 (ls.map lnkC)]), (3, .int .i64 i)]) (fun i => i ≤ ns.length ∧ ∀ j < i, nodAt ns j = true) (fun i => ns.length - i) 0 (by simp) (by simp) ?_
  rintro i ⟨hi, hj⟩
  simp
  refine brB_of (fun h => ?_) (fun h => ?_) <;> simp at h <;> simp [h]
  · have hw : IntKind.wrap .i64 ((i : Int) + 1) = ((i + 1 : Nat) : Int) := wrap_i64 (by omega) (by omega)
    have bad := badN i h
    have e1 : ns[i]! = ns[i] := getElem!_pos ns i h
    simp only [nodAt, e1] at bad
    have k1 := nodR_c hC ns[i]
    have k2 := rNode_c hC b1 b2 ns ls ns[i].name (by omega)
    simp only [nodC] at k1
    simp [nodC, h]
    refine callW_of k1 (.inl rfl) ?_
    cases g1 : nodOk ns[i]
    · simp
      refine ⟨indW_of (by decide +kernel), ?_⟩
      exact bad (by simp [g1])
    simp [nodC, h]
    refine callW_of k2 (.inl rfl) ?_
    simp
    refine ⟨indW_of (by decide +kernel), ?_⟩
    refine brB_of (fun g2 => ?_) (fun g2 => ?_) <;> simp at g2 <;> simp [g2]
    · exact bad (by simp [g2])
    · simp [hw]
      refine ⟨i + 1, ⟨by omega, fun k hk => ?_⟩, by omega, by simp⟩
      rcases Nat.lt_succ_iff_lt_or_eq.1 hk with h5 | rfl
      · exact hj k h5
      · simp [nodAt, e1, g1, g2]
  have hall : (List.range ns.length).all (nodAt ns) = true := by
    rw [List.all_eq_true]
    intro k hk
    exact hj k (by simp at hk; omega)
  rw [hall, Bool.true_and] at hr
  clear badN hall hj
  refine loop_of Nat (fun i => [(1, .ptr [slx b1 (ns.map nodC), slx b2 (ls.map lnkC)]), (4, .int .i64 i)]) (fun i => i ≤ ls.length ∧ ∀ j < i, lnkAt ns ls j = true) (fun i => ls.length - i) 0 (by simp) (by simp) ?_
  clear h hi i
  rintro i ⟨hi, hj⟩
  simp
  refine brB_of (fun h => ?_) (fun h => ?_) <;> simp at h <;> simp [h]
  · have hw : IntKind.wrap .i64 ((i : Int) + 1) = ((i + 1 : Nat) : Int) := wrap_i64 (by omega) (by omega)
    have bad := badL i h
    have e1 : ls[i]! = ls[i] := getElem!_pos ls i h
    simp only [lnkAt, e1] at bad
    have k1 := linkR_c hC ls[i]
    rw [linkR_eq] at k1
    have k2 := rLink_c hC b1 b2 ns ls ls[i].name (by omega)
    have k3 := rNode_c hC b1 b2 ns ls ls[i].src (by omega)
    have k4 := rNode_c hC b1 b2 ns ls ls[i].dst (by omega)
    have next : lnkAt ns ls i = true → ∃ s' : Nat, (s' ≤ ls.length ∧ ∀ j < s', lnkAt ns ls j = true) ∧ ls.length - s' < ls.length - i ∧ (i : Int) + 1 = s' := fun hl => by
      refine ⟨i + 1, ⟨by omega, fun k hk => ?_⟩, by omega, by simp⟩
      rcases Nat.lt_succ_iff_lt_or_eq.1 hk with h5 | rfl
      · exact hj k h5
      · exact hl
    simp only [lnkAt, e1] at next
    simp only [lnkC] at k1
    simp [lnkC, h]
    refine callW_of k1 (.inl rfl) ?_
    cases g1 : linkOk ls[i]
    · simp
      exact bad (by simp [g1])
    simp
    refine callW_of k2 (.inl rfl) ?_
    simp
    refine brB_of (fun g2 => ?_) (fun g2 => ?_) <;> simp at g2 <;> simp [g2]
    · exact bad (by simp [g2])
    refine callW_of k4 (.inl rfl) ?_
    simp
    refine brB_of (fun g4 => ?_) (fun g4 => ?_) <;> simp at g4 <;> simp [g4]
    · exact bad (by simp [show ¬ 0 ≤ idxD (nodIs ls[i].dst) ns by omega])
    have g4' : ¬ idxD (nodIs ls[i].dst) ns < 0 := by omega
    refine callW_of k3 (.inl rfl) ?_
    simp
    by_cases g3 : idxD (nodIs ls[i].src) ns < 0
    · simp [g3]
      exact bad (by simp [fromOk, show ¬ 0 ≤ idxD (nodIs ls[i].src) ns by omega])
    have g3' : 0 ≤ idxD (nodIs ls[i].src) ns := by omega
    have hf := idxD_lt g3'
    obtain ⟨f, hfe⟩ := Int.eq_ofNat_of_zero_le g3'
    rw [hfe] at hf ⊢
    simp at hf
    have e2 : ns[f]! = ns[f] := getElem!_pos ns f hf
    have hfo : fromOk ns ls[i].src = !decide (ns[f].kind = 3) := by
      simp [fromOk, hfe, e2]
    have g3'' : ¬ (f : Int) < 0 := by omega
    simp [hf, nodC, g3'']
    refine brB_of (fun g5 => ?_) (fun g5 => ?_) <;> simp at g5 <;> simp [g5]
    · exact bad (by simp [hfo, g5])
    · simp [hw]
      exact next (by simp [hfo, g5, g1, g2, g4])
  · have hall : (List.range ls.length).all (lnkAt ns ls) = true := by
      rw [List.all_eq_true]
      intro k hk
      exact hj k (by simp at hk; omega)
    rw [hr, hall]
end Go.Gv

set_option linter.unusedSimpArgs false
namespace Go.Gv
theorem lowR_stab {es : List Edg} {out : List Nat} {v : Nat} (h : 0 ≤ lowR es out v) : ∀ k, lowR es out (v + k) = lowR es out v
  | 0 => rfl
  | k + 1 => by
    have ih := lowR_stab h k
    show lowR es out (v + k + 1) = _
    unfold lowR
    rw [ih, if_neg (by omega)]
    cases v with
    | zero => rfl
    | succ v => rfl
theorem lowR_m1 {es : List Edg} {out : List Nat} : ∀ {v : Nat}, lowR es out v < 0 → lowR es out v = -1
  | 0, _ => rfl
  | v + 1, h => by
    unfold lowR at h ⊢
    by_cases h1 : lowR es out v < 0
    · rw [if_pos h1] at h ⊢
      split at h
      · omega
      · rename_i h2; rw [if_neg h2]
    · rw [if_neg h1] at h; exact absurd h h1
def rOrdV (n : Nat) (es : List Edg) : D := if (ordF n es).length = n then ndD (ordF n es) else .nils
variable {C : CC} (hC : Closed prog C)
include hC
theorem rgValid_c {b : Bool} {n : Nat} {es : List Edg} (hn : n ≤ 300) (he : es.length ≤ 1000) (hg : inG n es) : C 489 [.int .i64 n, slx b (es.map edK)] (.bool true) [] := by
  refine start hC (nf := N489_ref08_Valid) rfl rfl ?_
  simp [N489_ref08_Valid]
  have a1 : ¬ (n : Int) < 0 := by omega
  have a2 : ¬ (300 : Int) < n := by omega
  have a3 : ¬ (1000 : Int) < es.length := by omega
  simp [a1, a2, a3]
  refine loop_of Nat (fun j => [(0, .int .i64 n), (1, slx b (es.map edK)), (5, .int .i64 j)]) (fun j => j ≤ es.length) (fun j => es.length - j) 0 (by simp) (by simp) ?_
  rintro j hj
  simp
  refine brB_of (fun h => ?_) (fun h => ?_) <;> simp [h] <;> simp at h
  · have hw : IntKind.wrap .i64 ((j : Int) + 1) = ((j + 1 : Nat) : Int) := wrap_i64 (by omega) (by omega)
    obtain ⟨g1, g2⟩ := hg _ (List.getElem_mem h)
    have b1 : ¬ (es[j].1 : Int) < 0 := by omega
    have b2 : ¬ (n : Int) ≤ es[j].1 := by omega
    have b3 : ¬ (es[j].2 : Int) < 0 := by omega
    have b4 : ¬ (n : Int) ≤ es[j].2 := by omega
    simp [h, edK, knD, b1, b2, b3, b4, hw, show ¬ n ≤ es[j].1 by omega, show ¬ n ≤ es[j].2 by omega]
    exact ⟨j + 1, by omega, by omega, by omega⟩
set_option maxHeartbeats 1000000 in
theorem rgOrder_c {b : Bool} {n : Nat} {es : List Edg} (hn : n ≤ 300) (he : es.length ≤ 1000) (hg : inG n es) : C 490 [.int .i64 n, slx b (es.map edK)] (.tup [rOrdV n es, .bool (decide ((ordF n es).length = n))]) [] := by
  refine start hC (nf := N490_ref08_Order) rfl rfl ?_
  simp [N490_ref08_Order]
  refine ⟨by omega, ?_⟩
  refine loop_of Nat (fun m => [(0, .int .i64 n), (1, slx b (es.map edK)), (6, .ref (.r 10096) 0 n), (10096, .blk 1 (srcsA n (ordN n es m))), (7, .ref (.r 10112) 0 m), (10112, .blk 1 (intL (ordN n es m)))]) (fun m => (ordN n es m).length = m) (fun m => n - m) 0 (by simp [ordN]) (by simp [ordN, intL, srcsA, rep_map]) ?_
  rintro m hm
  have hI := ordN_I n es m
  have hmn := hI.len
  simp
  refine brB_of (fun h => ?_) (fun h => ?_) <;> simp at h
  · simp [h]
    refine loop_of Nat (fun v => [(0, .int .i64 n), (1, slx b (es.map edK)), (6, .ref (.r 10096) 0 n), (10096, .blk 1 (srcsA n (ordN n es m))), (7, .ref (.r 10112) 0 m), (10112, .blk 1 (intL (ordN n es m))), (8, .int .i64 (lowR es (ordN n es m) v)), (9, .int .i64 v)]) (fun v => v ≤ n) (fun v => n - v) 0 (by simp) (by simp [lowR]) ?_
    rintro v hv
    simp
    by_cases g1 : v < n
    · by_cases g2 : lowR es (ordN n es m) v < 0
      · have hw : IntKind.wrap .i64 ((v : Int) + 1) = ((v + 1 : Nat) : Int) := wrap_i64 (by omega) (by omega)
        simp [g1, g2, rowW_some (srcsA_get _ g1)]
        refine brB_of (fun c => ?_) (fun c => ?_) <;> simp at c <;> simp [c]
        · have e1 : lowR es (ordN n es m) (v + 1) = -1 := by rw [lowR, if_pos g2, if_neg (by simp [c])]
          exact ⟨v + 1, by omega, by omega, by rw [e1, lowR_m1 g2], hw⟩
        · refine loop_of Nat (fun j => [(0, .int .i64 n), (1, slx b (es.map edK)), (6, .ref (.r 10096) 0 n), (10096, .blk 1 (srcsA n (ordN n es m))), (7, .ref (.r 10112) 0 m), (10112, .blk 1 (intL (ordN n es m))), (8, .int .i64 (lowR es (ordN n es m) v)), (9, .int .i64 v), (10, .bool (prT es (ordN n es m) v j)), (11, .int .i64 j)]) (fun j => j ≤ es.length) (fun j => es.length - j) 0 (by simp) (by simp [prT, prOk]) ?_
          rintro j hj
          simp
          refine brB_of (fun k => ?_) (fun k => ?_) <;> simp at k <;> simp [k]
          · have hw2 : IntKind.wrap .i64 ((j : Int) + 1) = ((j + 1 : Nat) : Int) := wrap_i64 (by omega) (by omega)
            obtain ⟨i1, i2⟩ := hg _ (List.getElem_mem k)
            have es1 := prT_succ (out := ordN n es m) (v := v) k
            have p1 : (srcsA n (ordN n es m))[es[j].1]? = some [.bool (decide (es[j].1 ∈ ordN n es m))] := srcsA_get _ i1
            by_cases k1 : es[j].2 = v
            · have k1i : (es[j].2 : Int) = v := by omega
              by_cases k2 : es[j].1 ∈ ordN n es m
              · have e3 : prT es (ordN n es m) v (j + 1) = prT es (ordN n es m) v j := by rw [es1]; simp [k2]
                simp [k, edK, knD, k1, k1i, i1, rowW_some p1, k2, hw2]
                exact ⟨j + 1, by omega, by omega, e3.symm, by omega⟩
              · have e3 : prT es (ordN n es m) v (j + 1) = false := by rw [es1]; simp [k1, k2]
                simp [k, edK, knD, k1, k1i, i1, rowW_some p1, k2, hw2]
                exact ⟨j + 1, by omega, by omega, e3, by omega⟩
            · have k1i : ¬ (es[j].2 : Int) = v := by omega
              have e3 : prT es (ordN n es m) v (j + 1) = prT es (ordN n es m) v j := by rw [es1]; simp [k1]
              simp [k, edK, knD, k1, k1i, hw2]
              exact ⟨j + 1, by omega, by omega, by rw [e3], by omega⟩
          · have ej : j = es.length := by omega
            subst ej
            rw [prT_end]
            cases hp : prOk es (ordN n es m) v
            · simp [hw]
              have e1 : lowR es (ordN n es m) (v + 1) = -1 := by rw [lowR, if_pos g2, if_neg (by simp [hp])]
              exact ⟨v + 1, by omega, by omega, by rw [e1, lowR_m1 g2], by omega⟩
            · simp [hw]
              have e1 : lowR es (ordN n es m) (v + 1) = v := by rw [lowR, if_pos g2, if_pos (by simp [hp, c])]
              exact ⟨v + 1, by omega, by omega, by rw [e1], by omega⟩
      · have e1 : lowR es (ordN n es m) n = lowR es (ordN n es m) v := by
          have := lowR_stab (es := es) (out := ordN n es m) (v := v) (by omega) (n - v)
          rwa [show v + (n - v) = n by omega] at this
        obtain ⟨i, r, e2, e3, e4⟩ := lowR_pos (v := n) (es := es) (out := ordN n es m) (by omega)
        have eN := ordN_succ e3
        have e5 : (intL (ordN n es m)).take m = intL (ordN n es m) := List.take_of_length_le (by rw [intL_len]; omega)
        rw [e1] at e2
        have hlt : ¬ (i : Int) < 0 := by omega
        have hsl : (srcsA n (ordN n es m)).length = n := by simp [srcsA]
        have hst : (srcsA n (ordN n es m)).set i [.bool true] = srcsA n (ordN n es (m + 1)) := by rw [srcsA_set, eN]
        simp [g1, e2, hlt, e4, srcsA_get _ e4, intL_len, hm]
        refine ⟨by omega, m + 1, by rw [eN]; simp [hm], by omega, ?_⟩
        rw [e5, intL_app, ← eN, hst]
        simp
    · have ev : v = n := by omega
      rw [ev]
      by_cases g2 : lowR es (ordN n es m) n < 0
      · have e3 := lowR_neg g2
        have eF := ordF_of hm e3
        simp [g2]
        rw [rOrdV, eF, hm, if_neg (by omega)]
        simp
        omega
      · obtain ⟨i, r, e2, e3, e4⟩ := lowR_pos (v := n) (es := es) (out := ordN n es m) (by omega)
        have eN := ordN_succ e3
        have e5 : (intL (ordN n es m)).take m = intL (ordN n es m) := List.take_of_length_le (by rw [intL_len]; omega)
        have hlt : ¬ (i : Int) < 0 := by omega
        have hsl : (srcsA n (ordN n es m)).length = n := by simp [srcsA]
        have hst : (srcsA n (ordN n es m)).set i [.bool true] = srcsA n (ordN n es (m + 1)) := by rw [srcsA_set, eN]
        simp [e2, hlt, e4, srcsA_get _ e4, intL_len, hm]
        refine ⟨by omega, m + 1, by rw [eN]; simp [hm], by omega, ?_⟩
        rw [e5, intL_app, ← eN, hst]
        simp
  · have em : n = m := by omega
    subst em
    have e1 : (intL (ordN n es n)).map (fun e => e.map cellV) = intL (ordN n es n) := by simp [intL, cellV]
    have e2 : (intL (ordN n es n)).take n = intL (ordN n es n) := List.take_of_length_le (by rw [intL_len]; omega)
    have e3 : (ordF n es).length = n := hm
    simp
    rw [e1, e2, rOrdV, if_pos e3, intL_len]
    exact ⟨by omega, rfl, e3⟩
theorem rgTree_c {b : Bool} {n : Nat} {es : List Edg} (hn : n ≤ 300) (he : es.length ≤ 1000) (hg : inG n es) : C 459 [.int .i64 n, slx b (es.map edK)] (.bool (treeF n es)) [] := by
  have k1 := rgValid_c hC (b := b) hn he hg
  have k2 := rgOrder_c hC (b := b) hn he hg
  obtain ⟨r, hr⟩ : ∃ r, r = treeF n es := ⟨_, rfl⟩
  rw [← hr]
  unfold treeF at hr
  refine start hC (nf := N459_ref08_Tree) rfl rfl ?_
  simp [N459_ref08_Tree]
  refine callW_of k1 (.inl rfl) ?_
  simp
  refine loop_of Nat (fun j => [(0, .int .i64 n), (1, slx b (es.map edK)), (5, .int .i64 j)]) (fun j => j ≤ es.length ∧ (srcT es j).Nodup) (fun j => es.length - j) 0 (by simp) (by simp) ?_
  rintro j ⟨hj, hnd⟩
  simp
  refine brB_of (fun h => ?_) (fun h => ?_) <;> simp [h] <;> simp at h
  · have hw : IntKind.wrap .i64 ((j : Int) + 1) = ((j + 1 : Nat) : Int) := wrap_i64 (by omega) (by omega)
    refine loop_of Nat (fun k => [(0, .int .i64 n), (1, slx b (es.map edK)), (5, .int .i64 j), (6, .int .i64 k)]) (fun k => k ≤ j ∧ es[j].1 ∉ srcT es k) (fun k => j - k) 0 (by simp) (by simp) ?_
    rintro k ⟨hk, hnk⟩
    simp
    refine brB_of (fun g => ?_) (fun g => ?_) <;> simp [g] <;> simp at g
    · have hw2 : IntKind.wrap .i64 ((k : Int) + 1) = ((k + 1 : Nat) : Int) := wrap_i64 (by omega) (by omega)
      have hkl : k < es.length := by omega
      simp [h, hkl, edK, knD]
      refine ⟨indW_of (by decide +kernel), ?_⟩
      refine brB_of (fun c => ?_) (fun c => ?_) <;> simp at c <;> simp [c]
      · have c' : es[j].1 = es[k].1 := by omega
        have hbad : ¬ (srcT es (j + 1)).Nodup := by
          rw [srcT_succ h, List.nodup_append]
          rintro ⟨_, _, h3⟩
          refine h3 es[k].1 ?_ _ (by simp) c'.symm
          unfold srcT
          rw [List.mem_map]
          exact ⟨es[k], by rw [List.mem_take_iff_getElem]; exact ⟨k, by omega, rfl⟩, rfl⟩
        simp [hr, srcT_nd hbad]
      · have c' : ¬ es[j].1 = es[k].1 := by omega
        simp [hw2]
        refine ⟨k + 1, ⟨by omega, ?_⟩, by omega, by omega⟩
        rw [srcT_succ hkl]
        simp [hnk, c']
    · have ek : k = j := by omega
      subst ek
      have hnd2 : (srcT es (k + 1)).Nodup := by
        rw [srcT_succ h, List.nodup_append]
        refine ⟨hnd, by simp, fun a ha b hb => ?_⟩
        simp at hb
        subst hb
        rintro rfl
        exact hnk ha
      simp [hw]
      exact ⟨k + 1, ⟨by omega, hnd2⟩, by omega, by omega⟩
  · have ej : j = es.length := by omega
    rw [ej, srcT_end] at hnd
    refine callW_of k2 (.inr rfl) ?_
    unfold rOrdV ndD
    split <;> simp [hr, hnd]
theorem rTree_c (b1 b2 : Bool) (ns : List Nod) (ls : List Lnk) : C 427 [.agg [slx b1 (ns.map nodC), slx b2 (ls.map lnkC)]] (.bool (treeN ns ls)) [] := by
  have k1 := rValid_c hC b1 b2 ns ls
  obtain ⟨r, hr⟩ : ∃ r, r = treeN ns ls := ⟨_, rfl⟩
  rw [← hr]
  unfold treeN at hr
  refine start hC (nf := N427_ref30_Tree) rfl rfl ?_
  simp [N427_ref30_Tree]
  refine callW_of k1 (.inl rfl) ?_
  cases hv : netOk ns ls
  · simp [hr, hv]
  obtain ⟨l1, l2⟩ := netOk_len hv
  have k2 := rEdges_c hC b1 b2 ns ls hv
  have k3 := rgTree_c hC (b := false) (n := ns.length) (es := edgN ns ls) l1 (by rw [edgN_len]; omega) (edgN_in hv)
  rw [hv, Bool.true_and] at hr
  simp
  refine loop_of Nat (fun j => [(1, .ptr [slx b1 (ns.map nodC), slx b2 (ls.map lnkC)]), (3, .int .i64 j)]) (fun j => j ≤ ls.length ∧ ∀ k, (h : k < ls.length) → k < j → ls[k].kind = 1) (fun j => ls.length - j) 0 (by simp) (by simp) ?_
  rintro j ⟨hj, hok⟩
  simp
  refine brB_of (fun h => ?_) (fun h => ?_) <;> simp [h] <;> simp at h
  · have hw : IntKind.wrap .i64 ((j : Int) + 1) = ((j + 1 : Nat) : Int) := wrap_i64 (by omega) (by omega)
    simp [h, lnkC]
    refine brB_of (fun c => ?_) (fun c => ?_) <;> simp at c <;> simp [c]
    · have : ls.all (fun l => decide (l.kind = 1)) = false := by
        rw [List.all_eq_false]
        exact ⟨ls[j], List.getElem_mem h, by simpa using c⟩
      rw [this] at hr
      simpa using hr
    · simp [hw]
      refine ⟨j + 1, ⟨by omega, fun k hk1 hk2 => ?_⟩, by omega, by omega⟩
      rcases Nat.lt_succ_iff_lt_or_eq.1 hk2 with h2 | rfl
      · exact hok k hk1 h2
      · exact c
  · have hall : ls.all (fun l => decide (l.kind = 1)) = true := by
      rw [List.all_eq_true]
      intro l hl
      obtain ⟨k, hk, rfl⟩ := List.mem_iff_getElem.1 hl
      simpa using hok k hk (by omega)
    rw [hall, Bool.true_and] at hr
    refine callW_of k2 (.inr rfl) ?_
    simp at k3 ⊢
    refine callW_of k3 (.inl rfl) ?_
    simp
    exact ⟨indW_of (by decide +kernel), hr.symm⟩
end Go.Gv

set_option linter.unusedSimpArgs false
namespace Go.Gv
def catValid (l : List Sec) : Bool := decide (l.length ≤ 40) && l.all secValid && decide ((l.map (·.name)).Nodup)
def namesK (l : List Sec) : List D := ((l.map (·.name)).reverse).map D.str
theorem mpGet_set : ∀ (xs : List (List UInt8)) (n : Nat), n = xs.length → ∀ s, (mpGet (xs.map D.str) (List.replicate n (.bool true)) (.str s)).getD (.bool false) = .bool (decide (s ∈ xs))
  | [], n, h, s => by simp [mpGet]
  | x :: xs, n, h, s => by
    obtain ⟨m, rfl⟩ : ∃ m, n = m + 1 := ⟨n - 1, by simp at h; omega⟩
    have ih := mpGet_set xs m (by simpa using h) s
    simp only [List.map_cons, List.replicate_succ, mpGet, eqD, eqD1, decide_eq_true_eq]
    by_cases e : s = x
    · subst e; simp
    · rw [if_neg e, ih]; simp [e]
variable {C : CC} (hC : Closed prog C)
include hC
theorem catValid_c (b : Bool) (l : List Sec) : C 44 [slx b (l.map secC)] (.bool (catValid l)) [] := by
  refine start hC (nf := N44_catalogue_Valid) rfl rfl ?_
  simp [N44_catalogue_Valid]
  refine brB_of (fun h => ?_) (fun h => ?_) <;> simp at h
  · simp [catValid]; omega
  simp
  refine loop_of Nat (fun i => [(3, .mrf 10144), (10144, .mp 0 1 (namesK (l.take i)) (List.replicate i (.bool true))), (10, slx b (l.map secC)), (11, .int .i64 l.length), (12, .int .i64 i)])
    (fun i => i ≤ l.length ∧ (∀ x ∈ l.take i, secValid x = true) ∧ ((l.map (·.name)).take i).Nodup) (fun i => l.length - i) 0 (by simp) (by simp [namesK]) ?_
  rintro i ⟨hi, hv, hn⟩
  simp
  refine brB_of (fun h3 => ?_) (fun h3 => ?_) <;> simp at h3
  · have ht : l.take (i + 1) = l.take i ++ [l[i]] := List.take_succ_eq_append_getElem h3
    have hg := mpGet_set ((l.take i).map (·.name)).reverse i (by simp; omega) l[i].name
    rw [show ((l.take i).map (·.name)).reverse.map D.str = namesK (l.take i) from rfl] at hg
    have hk : D.str l[i].name :: namesK (l.take i) = namesK (l.take (i + 1)) := by
      rw [namesK, namesK, ht]
      simp only [List.map_append, List.map_cons, List.map_nil, List.reverse_append, List.reverse_cons, List.reverse_nil, List.nil_append, List.cons_append]
    have hlen : (namesK (l.take i)).length < maxLen := by
      have : (namesK (l.take i)).length ≤ 40 := by simp [namesK]; omega
      unfold maxLen; omega
    have hw : IntKind.wrap .i64 ((i : Int) + 1) = ((i + 1 : Nat) : Int) := wrap_i64 (by omega) (by omega)
    have bad1 : secValid l[i] = false → catValid l = false := fun e => by
      simp only [catValid, Bool.and_eq_false_iff, List.all_eq_false]
      exact .inl (.inr ⟨l[i], List.getElem_mem h3, by simp [e]⟩)
    have h5 : (l.map (·.name)).take (i + 1) = (l.map (·.name)).take i ++ [l[i].name] := by
      rw [List.take_succ_eq_append_getElem (by simpa using h3)]; simp
    have bad2 : l[i].name ∈ (l.map (·.name)).take i → catValid l = false := fun e => by
      simp only [catValid, Bool.and_eq_false_iff, decide_eq_false_iff_not]
      right
      intro hnd
      have h6 := (List.take_sublist (i + 1) _).nodup hnd
      rw [h5, List.nodup_append] at h6
      exact h6.2.2 _ e _ (by simp) rfl
    simp [h3, secC]
    have hvc := valid_c hC l[i]
    rw [secC] at hvc
    refine callW_of hvc (.inl rfl) ?_
    cases hvi : secValid l[i]
    · simp [bad1 hvi]
    · have hnm : l[i].name.length ≤ maxLen := by
        simp only [secValid, isName, Bool.and_eq_true, decide_eq_true_eq] at hvi
        unfold maxLen; omega
      simp [hg, hnm]
      refine brB_of (fun h4 => ?_) (fun h4 => ?_) <;> simp [h4] <;> simp at h4
      · exact bad2 h4
      · simp [hlen, hnm, hw]
        refine ⟨i + 1, ⟨by omega, ?_, ?_⟩, by omega, ⟨hk, ?_⟩, rfl⟩
        · intro x hx
          rw [ht] at hx
          rcases List.mem_append.1 hx with hx | hx
          · exact hv x hx
          · simp at hx; subst hx; exact hvi
        · rw [h5, List.nodup_append]
          refine ⟨hn, by simp, fun a ha b hb => ?_⟩
          simp at hb
          subst hb
          rintro rfl
          exact h4 ha
        · rw [List.replicate_succ]
  · have hil : i = l.length := by omega
    subst hil
    rw [List.take_of_length_le (by simp)] at hn
    simp at hv
    simp [catValid, hn]
    exact ⟨by omega, hv⟩
end Go.Gv

set_option linter.unusedSimpArgs false
namespace Go.Gv
variable {C : CC} (hC : Closed prog C)
include hC
theorem rfits_c (b : Bool) (t : List (Int × Int)) (hgt most : Int) : C 55 [slx b (t.map knD), .int .i64 hgt, .int .i64 most] (.bool (curveOk t hgt most)) [] := by
  refine start hC (nf := N55_ref28_fits) rfl rfl ?_
  simp [N55_ref28_fits]
  refine callW_of (rTable_c hC b t) (.inl rfl) ?_
  cases hv : tableValid t
  · simp [curveOk, hv]
  obtain ⟨l1, l2⟩ := valid_len hv
  obtain ⟨n, hn⟩ : ∃ n, n + 1 = t.length := ⟨t.length - 1, by omega⟩
  have e1 : IntKind.wrap .i64 ((t.length : Int) - 1) = (n : Int) := wrap_i64 (by omega) (by omega)
  have hnl : n < t.length := by omega
  have h0 : 0 < t.length := by omega
  have e0 : t[0]! = t[0] := getElem!_pos t 0 h0
  simp [e1, hnl, h0, knD]
  rw [curveOk, lastK_get hn, e0, hv]
  refine brB_of (fun c => ?_) (fun c => ?_) <;> simp [h0, knD] at c <;> simp [c, h0, hnl, knD]
  refine brB_of (fun c2 => ?_) (fun c2 => ?_) <;> simp [h0, knD] at c2 <;> simp [c2, h0, hnl, knD]
  refine brB_of (fun c3 => ?_) (fun c3 => ?_) <;> simp [h0, knD] at c3 <;> simp [c3, h0, hnl, knD]
  exact fun _ => ⟨c, c2⟩
theorem rRight_c (s : Sec) : C 48 [.agg (secC s)] (.bool (secValid s)) [] := by
  refine start hC (nf := N48_ref28_Right) rfl rfl ?_
  simp [N48_ref28_Right, secC]
  refine callW_of (rIsName_c hC s.name) (.inl rfl) ?_
  cases h1 : isName s.name
  · simp [secValid, h1]
  simp
  refine brB_of (fun c1 => ?_) (fun c1 => ?_) <;> simp [c1] <;> simp at c1
  · simp [secValid]; omega
  refine brB_of (fun c2 => ?_) (fun c2 => ?_) <;> simp [c2] <;> simp at c2
  · simp [secValid]; omega
  refine brB_of (fun c3 => ?_) (fun c3 => ?_) <;> simp [c3] <;> simp at c3
  · simp [secValid]; omega
  refine brB_of (fun c4 => ?_) (fun c4 => ?_) <;> simp [c4] <;> simp at c4
  · simp [secValid]; omega
  refine callW_of (rfits_c hC _ _ _ _) (.inl rfl) ?_
  cases h5 : curveOk s.area s.height 1073741824
  · simp [secValid, h5]
  simp
  refine callW_of (rfits_c hC _ _ _ _) (.inl rfl) ?_
  have d1 : 1 ≤ s.height := by omega
  simp [secValid, h1, d1, c2, c3, c4, h5]
end Go.Gv

set_option linter.unusedSimpArgs false
namespace Go.Gv
structure Job where
  below : SlI
  lengths : SlI
  flows : SlI
  falls : SlI
  room : SlI
  secN : Bool
  secs : List Sec
  deriving Inhabited
def jobC (j : Job) : List D := [slI j.below, slI j.lengths, slI j.flows, slI j.falls, slI j.room, slx j.secN (j.secs.map secC)]
def manySec (s : Sec) : Bool := decide (20 < s.area.length) || decide (20 < s.conv.length) || decide (60 < s.name.length)
def manyF (l : List Sec) : Bool := decide (8 < l.length) || l.any manySec
def largeF (j : Job) : Bool := decide (12 < j.below.l.length) || decide (12 < j.lengths.l.length) || decide (12 < j.flows.l.length) || decide (12 < j.falls.l.length) || decide (12 < j.room.l.length) || manyF j.secs
def inR (n a b : Int) : Bool := a ≤ n && n ≤ b
def pipeOk (j : Job) (i : Nat) : Bool := (j.below.l[i]! == -1 || (decide ((i : Int) < j.below.l[i]!) && decide (j.below.l[i]! < j.below.l.length))) && inR j.lengths.l[i]! 1 16777216 && inR j.flows.l[i]! 0 1099511627776 && inR j.falls.l[i]! 0 4194304 && inR j.room.l[i]! 0 4194304
def jobValid (j : Job) : Bool := decide (j.below.l.length ≤ 400) && decide (j.lengths.l.length = j.below.l.length) && decide (j.flows.l.length = j.below.l.length) && decide (j.falls.l.length = j.below.l.length) && decide (j.room.l.length = j.below.l.length) && decide (0 < j.secs.length) && catValid j.secs && (List.range j.below.l.length).all (pipeOk j)
@[simp] theorem slI_slx {x : SlI} : slI x = slx x.n (x.l.map fun n => [.int .i64 n]) := _root_.id rfl
variable {C : CC} (hC : Closed prog C)
include hC
end Go.Gv

set_option linter.unusedSimpArgs false
namespace Go.Gv
def nameIs (nm : List UInt8) (s : Sec) : Bool := s.name == nm
theorem catValid_iff (l : List Sec) : catValid l = true ↔ l.length ≤ 40 ∧ (∀ (i : Nat) (h : i < l.length), secValid l[i] = true ∧ idxD (nameIs l[i].name) l = i) := by
  simp only [catValid, Bool.and_eq_true, decide_eq_true_eq, List.all_eq_true]
  constructor
  · rintro ⟨⟨h1, h2⟩, h3⟩
    refine ⟨h1, fun i h => ⟨h2 _ (List.getElem_mem h), ?_⟩⟩
    refine idxD_step (fun k hk hki => ?_) h (by simp [nameIs])
    rw [nameIs, beq_eq_false_iff_ne]
    intro e
    exact List.pairwise_iff_getElem.1 h3 k i (by simpa using hk) (by simpa using h) hki (by simpa using e)
  · rintro ⟨h1, h2⟩
    refine ⟨⟨h1, fun x hx => ?_⟩, ?_⟩
    · obtain ⟨i, h, rfl⟩ := List.getElem_of_mem hx
      exact (h2 i h).1
    · refine List.pairwise_iff_getElem.2 fun a b ha hb hab e => ?_
      simp only [List.length_map] at ha hb
      simp only [List.getElem_map] at e
      have h3 := (h2 b hb).2
      have h4 : ∃ k, k ≤ a ∧ idxD (nameIs l[b].name) l = (k : Int) := by
        unfold idxD
        cases hf : l.findIdx? (nameIs l[b].name) with
        | none =>
          rw [List.findIdx?_eq_none_iff] at hf
          have := hf l[a] (List.getElem_mem _)
          simp [nameIs, e] at this
        | some k =>
          refine ⟨k, ?_, rfl⟩
          rw [List.findIdx?_eq_some_iff_getElem] at hf
          obtain ⟨q1, q2, q3⟩ := hf
          rcases Nat.lt_or_ge a k with hak | hak
          · exact absurd (by simp [nameIs, e]) (q3 a hak)
          · exact hak
      obtain ⟨k, h5, h6⟩ := h4
      omega
variable {C : CC} (hC : Closed prog C)
include hC
theorem rFind_c (b : Bool) (l : List Sec) (nm : List UInt8) (hl : l.length < 2 ^ 62) : C 49 [slx b (l.map secC), .str nm] (.int .i64 (idxD (nameIs nm) l)) [] := by
  refine start hC (nf := N49_ref28_Find) rfl rfl ?_
  simp [N49_ref28_Find]
  refine loop_of Nat (fun i => [(0, slx b (l.map secC)), (1, .str nm), (5, .int .i64 i)]) (fun i => i ≤ l.length ∧ ∀ (k : Nat) (h : k < l.length), k < i → nameIs nm l[k] = false) (fun i => l.length - i) 0 (by simp) (by simp) ?_
  rintro i ⟨hi, hj⟩
  simp
  refine brB_of (fun h => ?_) (fun h => ?_) <;> simp at h <;> simp [h]
  · have hw : IntKind.wrap .i64 ((i : Int) + 1) = ((i + 1 : Nat) : Int) := wrap_i64 (by omega) (by omega)
    simp [h, secC]
    refine brB_of (fun h2 => ?_) (fun h2 => ?_) <;> simp at h2 <;> simp [h2, hw]
    · rw [idxD_step hj h (by simp [nameIs, h2])]
    · refine ⟨i + 1, ⟨by omega, fun k hk hki => ?_⟩, by omega, by simp⟩
      rcases Nat.lt_succ_iff_lt_or_eq.1 hki with h5 | rfl
      · exact hj k hk h5
      · simp [nameIs, h2]
  · rw [idxD_none (fun k hk => hj k hk (by omega))]
theorem rcat_c (b : Bool) (l : List Sec) : C 33 [slx b (l.map secC)] (.bool (catValid l)) [] := by
  refine start hC (nf := N33_ref28_Valid) rfl rfl ?_
  simp [N33_ref28_Valid]
  refine brB_of (fun h => ?_) (fun h => ?_) <;> simp at h
  · simp [catValid]; omega
  simp
  have hcv := catValid_iff l
  refine loop_of Nat (fun i => [(0, slx b (l.map secC)), (3, .int .i64 i)]) (fun i => i ≤ l.length ∧ ∀ (k : Nat) (h : k < l.length), k < i → secValid l[k] = true ∧ idxD (nameIs l[k].name) l = k) (fun i => l.length - i) 0 (by simp) (by simp) ?_
  rintro i ⟨hi, hj⟩
  simp
  refine brB_of (fun h3 => ?_) (fun h3 => ?_) <;> simp at h3 <;> simp [h3]
  · have hw : IntKind.wrap .i64 ((i : Int) + 1) = ((i + 1 : Nat) : Int) := wrap_i64 (by omega) (by omega)
    have bad : ¬ (secValid l[i] = true ∧ idxD (nameIs l[i].name) l = i) → catValid l = false := fun e => by
      rw [← Bool.not_eq_true]
      exact fun e2 => e ((hcv.1 e2).2 i h3)
    have hr := rRight_c hC l[i]
    have hf := rFind_c hC b l l[i].name (by omega)
    simp [h3, secC]
    simp [secC] at hr
    refine callW_of hr (.inl rfl) ?_
    cases hs : secValid l[i]
    · simp
      exact bad (by simp [hs])
    simp [h3, secC]
    refine callW_of hf (.inl rfl) ?_
    simp
    refine brB_of (fun h4 => ?_) (fun h4 => ?_) <;> simp at h4 <;> simp [h4]
    · exact bad (fun e => h4 e.2)
    · simp [hw]
      refine ⟨i + 1, ⟨by omega, fun k hk hki => ?_⟩, by omega, by simp⟩
      rcases Nat.lt_succ_iff_lt_or_eq.1 hki with h5 | rfl
      · exact hj k hk h5
      · exact ⟨hs, h4⟩
  · rw [hcv.2 ⟨by omega, fun k hk => hj k hk (by omega)⟩]
end Go.Gv

set_option linter.unusedSimpArgs false
namespace Go.Gv
open Go.Lib
variable {C : CC} (hC : Closed prog C)
include hC
end Go.Gv

set_option linter.unusedSimpArgs false
namespace Go.Gv
def DvS (x b i a q r : Nat) : Prop := i ≤ 128 ∧ r < b ∧ ∃ c, a = c * 2 ^ i ∧ c < 2 ^ (128 - i) ∧ (q * b + r) * 2 ^ (128 - i) + c = x
theorem DvS.step {x b i a q r : Nat} (h : DvS x b i a q r) (hi : i < 128) (hb : 0 < b) :
    a < 340282366920938463463374607431768211456 ∧ 2 * q ≤ x ∧
    ∀ w r' a', 2 * r + a / 170141183460469231731687303715884105728 = w * b + r' → r' < b → a' = 2 * a % 340282366920938463463374607431768211456 → DvS x b (i + 1) a' (2 * q + w) r' ∧ 2 * q + w ≤ x := by
  obtain ⟨_, hr, c, h1, h2, h3⟩ := h
  obtain ⟨m, hm⟩ : ∃ m, m + 1 = 128 - i := ⟨127 - i, by omega⟩
  have hm2 : m = 128 - (i + 1) := by omega
  rw [← hm, Nat.pow_succ] at h2 h3
  obtain ⟨V, hV⟩ : ∃ V, V = 2 ^ m := ⟨_, rfl⟩
  obtain ⟨W, hW⟩ : ∃ W, W = 2 ^ i := ⟨_, rfl⟩
  have hVW : V * W = 170141183460469231731687303715884105728 := by
    rw [hV, hW, ← Nat.pow_add, show m + i = 127 by omega]
  have hVp : 0 < V := by rw [hV]; exact Nat.two_pow_pos m
  rw [← hV] at h2 h3
  rw [← hW] at h1
  obtain ⟨t, ht⟩ : ∃ t, t = c / V := ⟨_, rfl⟩
  obtain ⟨d, hd⟩ : ∃ d, d = c % V := ⟨_, rfl⟩
  have hc : c = t * V + d := by rw [ht, hd, Nat.mul_comm]; exact (Nat.div_add_mod c V).symm
  have hdV : d < V := by rw [hd]; exact Nat.mod_lt _ hVp
  have ht1 : t ≤ 1 := by
    have : t < 2 := by rw [ht, Nat.div_lt_iff_lt_mul hVp]; omega
    omega
  have ha : a = t * 170141183460469231731687303715884105728 + d * W := by
    rw [h1, hc, Nat.add_mul, Nat.mul_assoc, hVW]
  have hdW : d * W < 170141183460469231731687303715884105728 := by
    have : (d + 1) * W ≤ V * W := Nat.mul_le_mul_right _ hdV
    rw [hVW, Nat.add_mul] at this
    have hWp : 0 < W := by rw [hW]; exact Nat.two_pow_pos i
    omega
  have hbit : a / 170141183460469231731687303715884105728 = t := by
    rw [ha]; generalize d * W = z at *; omega
  have fin : ∀ w r', 2 * r + t = w * b + r' → ((2 * q + w) * b + r') * V + d = x := fun w r' e => by
    have e1 : (2 * q + w) * b + r' = 2 * (q * b + r) + t := by
      rw [Nat.add_mul, Nat.mul_assoc]
      generalize q * b = z at *
      generalize w * b = z' at *
      omega
    rw [e1, ← h3, hc, Nat.add_mul, Nat.mul_comm V 2, ← Nat.mul_assoc, Nat.mul_comm (q * b + r) 2]
    omega
  have big : ∀ w r', 2 * r + t = w * b + r' → 2 * q + w ≤ x := fun w r' e => by
    have e1 := fin w r' e
    have e2 : 2 * q + w ≤ (2 * q + w) * b := Nat.le_mul_of_pos_right _ hb
    have e3 : (2 * q + w) * b + r' ≤ ((2 * q + w) * b + r') * V := Nat.le_mul_of_pos_right _ hVp
    omega
  refine ⟨?_, ?_, ?_⟩
  · rw [ha]; generalize d * W = z at *; omega
  · exact Nat.le_trans (Nat.le_add_right _ _) (big _ _ (Nat.div_add_mod' (2 * r + t) b).symm)
  · intro w r' a' e hr' ha'
    rw [hbit] at e
    refine ⟨⟨by omega, hr', d, ?_, ?_, ?_⟩, big w r' e⟩
    · rw [ha', ha, Nat.pow_succ, ← hW, Nat.mul_comm W 2, Nat.mul_left_comm]
      generalize d * W = z at *
      omega
    · rw [← hm2, ← hV]; exact hdV
    · rw [← hm2, ← hV]; exact fin w r' e
theorem DvS.last {x b a q r : Nat} (h : DvS x b 128 a q r) : q = x / b ∧ r = x % b := by
  obtain ⟨_, hr, c, h1, h2, h3⟩ := h
  simp at h2 h3
  subst h2
  simp at h3
  subst h3
  have hb : 0 < b := by omega
  rw [Nat.mul_comm, Nat.mul_add_div hb, Nat.div_eq_of_lt hr, Nat.mul_add_mod, Nat.mod_eq_of_lt hr]
  exact ⟨rfl, rfl⟩
variable {C : CC} (hC : Closed prog C)
include hC
end Go.Gv

set_option linter.unusedSimpArgs false
namespace Go.Gv
variable {C : CC} (hC : Closed prog C)
include hC
end Go.Gv

set_option linter.unusedSimpArgs false
namespace Go.Gv
def nodA (nm : List UInt8) : Nod := { name := nm, kind := 1, x := 0, y := 0, invert := 0, ground := 1, shapeN := false, shape := [(0, 0), (1, 1)], prot := false, reserve := 0 }
def nodB (nm : List UInt8) : Nod := { name := nm, kind := 3, x := 0, y := 0, invert := 0, ground := 0, shapeN := true, shape := [], prot := false, reserve := 0 }
def pipeE (l : Lnk) (s : Sec) : Int := if linkOk l && secValid s then (if l.kind = 1 then (if l.sect = s.name then 0 else 25) else 11) else 1
variable {C : CC} (hC : Closed prog C)
include hC
end Go.Gv

set_option linter.unusedSimpArgs false
namespace Go.Gv
def enoughL (k flow len n : Nat) : Bool := decide (flow * flow * len ≤ k * k * n)
def lossN (k flow len : Nat) : Int × Int := if flow = 0 then (0, 0) else if k = 0 then (0, 16) else if enoughL k flow len 1073741824 then (bis (enoughL k flow len) 40 0 1073741824, 0) else (0, 5)
def lossF (l : Lnk) (s : Sec) (flow : Int) : Int × Int := lossN (lastK s.conv).2.toNat flow.toNat l.len.toNat
variable {C : CC} (hC : Closed prog C)
include hC
end Go.Gv

set_option linter.unusedSimpArgs false
namespace Go.Gv
def ceilN (x b : Nat) : Nat := if x % b = 0 then x / b else x / b + 1
def lostN (k f n : Nat) : Int × Int := if f = 0 then (0, 0) else if k = 0 then (0, 16) else if 1073741824 < ceilN (f * f * n) (k * k) then (0, 5) else (ceilN (f * f * n) (k * k), 0)
def lostF (l : Lnk) (s : Sec) (flow : Int) : Int × Int := lostN (lastK s.conv).2.toNat flow.toNat l.len.toNat
variable {C : CC} (hC : Closed prog C)
include hC
end Go.Gv

set_option linter.unusedSimpArgs false
namespace Go.Gv
variable {C : CC} (hC : Closed prog C)
include hC
end Go.Gv

set_option linter.unusedSimpArgs false
namespace Go.Gv
def valF (t : List (Int × Int)) (x : Int) : Int :=
  if posK t (x + 1) = 0 then t[0]!.2 else if posK t (x + 1) = t.length then t[posK t (x + 1) - 1]!.2 else (betK t[posK t (x + 1) - 1]! t[posK t (x + 1)]! x).1
variable {C : CC} (hC : Closed prog C)
include hC
end Go.Gv

set_option linter.unusedSimpArgs false
namespace Go.Gv
def depthR (s : Sec) (flow fall len : Int) : Int × Int :=
  if secValid s then (if 0 ≤ flow ∧ flow ≤ 1099511627776 ∧ slopeOk fall len = true then (if (carF s s.height fall len : Int) < flow then (0, 28) else (bis (enoughD s flow fall len) 40 0 s.height.toNat, 0)) else (0, 2)) else (0, 1)
variable {C : CC} (hC : Closed prog C)
include hC
end Go.Gv

set_option linter.unusedSimpArgs false
namespace Go.Gv
def mxI (a b : Int) : Int := if a < b then b else a
def fallF (l : Lnk) : Int := if 4194304 < l.up - l.down then 4194304 else l.up - l.down
def lowB (l : Lnk) (s : Sec) (flow level : Int) : Bool := decide (level < l.down + s.height) && (decide ((fullF s (fallF l) l.len).2 = 5) || (decide ((fullF s (fallF l) l.len).2 = 0) && decide (flow ≤ (fullF s (fallF l) l.len).1)))
def highF (l : Lnk) (s : Sec) (flow level : Int) : Int × Int :=
  if (lossF l s flow).2 = 0 then (if 1099511627776 < mxI (l.up + s.height) (level + (lossF l s flow).1) then (0, 5) else (mxI (l.up + s.height) (level + (lossF l s flow).1), 0)) else (0, (lossF l s flow).2)
def lowF (l : Lnk) (s : Sec) (flow level : Int) : Int × Int :=
  if (depthF s flow (fallF l) l.len).2 = 0 then (mxI (l.up + (depthF s flow (fallF l) l.len).1) level, 0) else (0, (depthF s flow (fallF l) l.len).2)
def aboveF (l : Lnk) (s : Sec) (flow level : Int) : Int × Int := if lowB l s flow level then lowF l s flow level else highF l s flow level
def upF (l : Lnk) (s : Sec) (flow level : Int) : Int × Int :=
  if pipeE l s = 0 then (if l.up < l.down then (0, 23) else if lowHigh flow 0 1099511627776 && lowHigh level (-4194304) 1099511627776 then aboveF l s flow level else (0, 2)) else (0, pipeE l s)
def lossU (l : Lnk) (s : Sec) (flow : Int) : Int × Int :=
  if pipeE l s = 0 then (if lowHigh flow 0 1099511627776 then lossF l s flow else (0, 2)) else (0, pipeE l s)
variable {C : CC} (hC : Closed prog C)
include hC
end Go.Gv

set_option linter.unusedSimpArgs false
namespace Go.Gv
def grI (a b : Int) : Int := if b < a then a else b
def givenE (l : Lnk) (s : Sec) : Int := if linkR l && secValid s then (if l.kind = 1 then (if l.sect = s.name then 0 else 25) else 11) else 1
def highR (l : Lnk) (s : Sec) (flow level : Int) : Int × Int :=
  if (lostF l s flow).2 = 0 then (if 1099511627776 < grI (l.up + s.height) (level + (lostF l s flow).1) then (0, 5) else (grI (l.up + s.height) (level + (lostF l s flow).1), 0)) else (0, (lostF l s flow).2)
def aboveR (l : Lnk) (s : Sec) (flow level : Int) : Int × Int :=
  if (depthR s flow (fallF l) l.len).2 = 0 ∧ level < l.down + s.height then (grI (l.up + (depthR s flow (fallF l) l.len).1) level, 0) else highR l s flow level
def upR (l : Lnk) (s : Sec) (flow level : Int) : Int × Int :=
  if givenE l s = 0 then (if l.up < l.down then (0, 23) else if lowHigh flow 0 1099511627776 && lowHigh level (-4194304) 1099511627776 then aboveR l s flow level else (0, 2)) else (0, givenE l s)
def lossR (l : Lnk) (s : Sec) (flow : Int) : Int × Int :=
  if givenE l s = 0 then (if lowHigh flow 0 1099511627776 then lostF l s flow else (0, 2)) else (0, givenE l s)
variable {C : CC} (hC : Closed prog C)
include hC
end Go.Gv

set_option linter.unusedSimpArgs false
namespace Go.Gv
def secI (ss : List Sec) (nm : List UInt8) : Int := idxD (nameIs nm) ss
def findF (ss : List Sec) (nm : List UInt8) : Int × Int := if catValid ss then (if 0 ≤ secI ss nm then (secI ss nm, 0) else (0, 9)) else (0, 1)
def noSec (ss : List Sec) (l : Lnk) : Bool := decide (secI ss l.sect < 0)
def uphill (l : Lnk) : Bool := decide (l.up < l.down)
def pipE (ls : List Lnk) (ss : List Sec) : Int := if ls.any (noSec ss) then 9 else if ls.any uphill then 23 else 0
def givE (ns : List Nod) (ls : List Lnk) (ss : List Sec) (q : List Sp) (count : Int) : Int := if treeN ns ls && catValid ss then (if spsE q count = 0 then pipE ls ss else spsE q count) else 1
structure PipOk (ss : List Sec) (l : Lnk) : Prop where
  idx : ∃ k, secI ss l.sect = (k : Nat) ∧ k < ss.length
  le : l.down ≤ l.up
  up : -4194304 ≤ l.up ∧ l.up ≤ 4194304
  down : -4194304 ≤ l.down ∧ l.down ≤ 4194304
  len : 1 ≤ l.len ∧ l.len ≤ 16777216
theorem treeN_lnk {ns : List Nod} {ls : List Lnk} (h : treeN ns ls = true) {l : Lnk} (hl : l ∈ ls) : lvlOk l.up = true ∧ lvlOk l.down = true ∧ lowHigh l.len 1 16777216 = true ∧ isName l.sect = true := by
  simp only [treeN, Bool.and_eq_true, List.all_eq_true, decide_eq_true_eq] at h
  obtain ⟨⟨hv, hk⟩, _⟩ := h
  obtain ⟨i, hi, rfl⟩ := List.getElem_of_mem hl
  have h1 := (netOk_lnk hv hi).1
  have h2 := hk _ hl
  simp only [linkOk, kindOk, h2, if_true, Bool.and_eq_true] at h1
  exact ⟨h1.1.1.2, h1.2.1.2, h1.2.1.1, h1.2.2⟩
theorem pipE_ok {ns : List Nod} {ls : List Lnk} {ss : List Sec} (ht : treeN ns ls = true) (h : pipE ls ss = 0) : ∀ l ∈ ls, PipOk ss l := by
  intro l hl
  obtain ⟨a, b, c, _⟩ := treeN_lnk ht hl
  simp only [lvlOk, lowHigh, Bool.and_eq_true, decide_eq_true_eq] at a b c
  unfold pipE at h
  split at h
  · cases h
  rename_i h1
  split at h
  · cases h
  rename_i h2
  simp only [Bool.not_eq_true, List.any_eq_false, noSec, uphill, decide_eq_true_eq] at h1 h2
  have e1 := h1 l hl
  have e2 := h2 l hl
  have hi : 0 ≤ secI ss l.sect := by omega
  refine ⟨⟨(secI ss l.sect).toNat, by omega, idxD_lt hi⟩, by omega, a, b, c⟩
theorem PipOk.fall {ss : List Sec} {l : Lnk} (h : PipOk ss l) : slopeOk (fallF l) l.len = true := by
  have := h.le; have := h.len; have := h.up; have := h.down
  by_cases h : 4194304 < l.up - l.down <;> simp [slopeOk, fallF, h] <;> omega
theorem givE_ok {ns : List Nod} {ls : List Lnk} {ss : List Sec} {q : List Sp} {count : Int} (h : givE ns ls ss q count = 0) : treeN ns ls = true ∧ catValid ss = true ∧ spsE q count = 0 ∧ pipE ls ss = 0 := by
  unfold givE at h
  split at h
  · rename_i h1
    simp only [Bool.and_eq_true] at h1
    split at h
    · rename_i h2
      exact ⟨h1.1, h1.2, h2, h⟩
    · rename_i h2
      exact absurd h h2
  · cases h
theorem catValid_sec {ss : List Sec} (h : catValid ss = true) {k : Nat} (hk : k < ss.length) : secValid ss[k] = true := ((catValid_iff ss).1 h).2 k hk |>.1
theorem catValid_len {ss : List Sec} (h : catValid ss = true) : ss.length ≤ 40 := ((catValid_iff ss).1 h).1
variable {C : CC} (hC : Closed prog C)
include hC
theorem Find_c (b : Bool) (ss : List Sec) (nm : List UInt8) : C 441 [slx b (ss.map secC), .str nm] (.tup [.int .i64 (findF ss nm).1, .int .i64 (findF ss nm).2]) [] := by
  have h1 : ∀ x ∈ ss, C 480 (.agg (secC x) :: [.ptr [.str nm]]) (.bool (nameIs nm x)) [] := fun x _ => by
    refine start hC (nf := N480_catalogue_Find_1) rfl rfl ?_
    simp [N480_catalogue_Find_1, secC, nameIs]
    rw [Bool.eq_iff_iff]; simp
  refine start hC (nf := N441_catalogue_Find) rfl rfl ?_
  simp [N441_catalogue_Find]
  refine callW_of (catValid_c hC b ss) (.inl rfl) ?_
  unfold findF
  cases hv : catValid ss
  · simp
  simp
  have := catValid_len hv
  refine callW_of (idxSec_c hC (b := b) _ (by omega) h1) (.inl rfl) ?_
  simp
  have e : idxD (nameIs nm) ss = secI ss nm := rfl
  rw [e]
  refine brB_of (fun h => ?_) (fun h => ?_) <;> simp at h <;> simp [h]
  rw [if_neg (by omega)]; simp
theorem uphill_c (l : Lnk) : C 506 [.agg (lnkC l)] (.bool (uphill l)) [] := by
  refine start hC (nf := N506_steady_sections_1) rfl rfl ?_
  simp [N506_steady_sections_1, lnkC, uphill]
theorem sections_c (b1 b2 b : Bool) (ns : List Nod) (ls : List Lnk) (ss : List Sec) (hls : ls.length < 2 ^ 62) (hv : catValid ss = true) : C 481 [.agg [slx b1 (ns.map nodC), slx b2 (ls.map lnkC)], slx b (ss.map secC)] (.int .i64 (pipE ls ss)) [] := by
  have k1 := fun nm => Find_c hC b ss nm
  have k2 := hasLnk_c hC (b := b2) (xs := ls) (g := 506) (cs := []) uphill hls (fun x _ => uphill_c hC x)
  refine start hC (nf := N481_steady_sections) rfl rfl ?_
  simp [N481_steady_sections]
  refine loop_of Nat (fun i => [(1, slx b (ss.map secC)), (2, .ptr [slx b1 (ns.map nodC), slx b2 (ls.map lnkC)]), (10, slx b2 (ls.map lnkC)), (11, .int .i64 ls.length), (12, .int .i64 i)]) (fun i => i ≤ ls.length ∧ ∀ (j : Nat) (h : j < ls.length), j < i → noSec ss ls[j] = false) (fun i => ls.length - i) 0 (by simp) (by simp) ?_
  rintro i ⟨hi, hj⟩
  simp
  refine brB_of (fun h => ?_) (fun h => ?_) <;> simp [h] <;> simp at h
  · have hw : IntKind.wrap .i64 ((i : Int) + 1) = ((i + 1 : Nat) : Int) := wrap_i64 (by omega) (by omega)
    simp [h, lnkC]
    refine callW_of (k1 _) (.inl rfl) ?_
    unfold findF
    rw [hv]
    by_cases h1 : 0 ≤ secI ss ls[i].sect
    · simp [h1, hw]
      refine ⟨i + 1, ⟨by omega, fun j hl hjj => ?_⟩, by omega, by omega⟩
      rcases Nat.lt_succ_iff_lt_or_eq.1 hjj with h2 | rfl
      · exact hj j hl h2
      · simp [noSec]; omega
    · simp [h1]
      have : ls.any (noSec ss) = true := List.any_eq_true.2 ⟨ls[i], List.getElem_mem h, by simp [noSec]; omega⟩
      rw [pipE, if_pos this]
  · have hno : ls.any (noSec ss) = false := by
      rw [List.any_eq_false]
      intro x hx
      obtain ⟨j, hjl, rfl⟩ := List.getElem_of_mem hx
      simp [hj j hjl (by omega)]
    refine callW_of k2 (.inl rfl) ?_
    unfold pipE
    rw [hno]
    cases hu : ls.any uphill <;> simp
end Go.Gv

set_option linter.unusedSimpArgs false
namespace Go.Gv
def capF (s : Sec) (depth fall len : Int) : Int × Int := if secValid s then (if 0 ≤ depth ∧ depth ≤ s.height ∧ slopeOk fall len = true then (if 1099511627776 < (carF s depth fall len : Int) then (0, 5) else (carF s depth fall len, 0)) else (0, 2)) else (0, 1)
def secL (ss : List Sec) (l : Lnk) : Sec := ss[(secI ss l.sect).toNat]?.getD ⟨[], 0, 0, true, [], true, []⟩
def fulF (ss : List Sec) (l : Lnk) : Int := if (capF (secL ss l) (secL ss l).height (fallF l) l.len).2 = 5 then 1099511627776 else (capF (secL ss l) (secL ss l).height (fallF l) l.len).1
theorem PipOk.sec {ss : List Sec} {l : Lnk} (h : PipOk ss l) : ∃ k, secI ss l.sect = (k : Nat) ∧ ∃ hk : k < ss.length, secL ss l = ss[k] := by
  obtain ⟨k, hk, hl⟩ := h.idx
  refine ⟨k, hk, hl, ?_⟩
  simp [secL, hk, hl]
theorem PipOk.find {ss : List Sec} {l : Lnk} (hv : catValid ss = true) (h : PipOk ss l) : findF ss l.sect = (secI ss l.sect, 0) := by
  obtain ⟨k, hk, hl⟩ := h.idx
  simp [findF, hv, hk]
theorem PipOk.valid {ss : List Sec} {l : Lnk} (hv : catValid ss = true) (h : PipOk ss l) : secValid (secL ss l) = true := by
  obtain ⟨k, hk, hl, e⟩ := h.sec
  rw [e]
  exact catValid_sec hv hl
theorem PipOk.wrap {ss : List Sec} {l : Lnk} (h : PipOk ss l) : IntKind.wrap .i64 (l.up - l.down) = l.up - l.down := by
  have := h.up; have := h.down
  exact wrap_i64 rfl (by omega)
variable {C : CC} (hC : Closed prog C)
include hC
theorem pipes_c (hS : SlC C) (b1 b2 b b' : Bool) (ns : List Nod) (ls : List Lnk) (ss : List Sec) (q : List Sp) (count : Int) (hls : ls.length < 2 ^ 62) (hq : q.length < 2 ^ 62) (hcv : ∀ l ∈ ls, l.curve.length < 2 ^ 62) : C 473 [.agg [slx b1 (ns.map nodC), slx b2 (ls.map lnkC)], slx b (ss.map secC), slx b' (q.map knD), .int .i64 count] (.int .i64 (givE ns ls ss q count)) [] := by
  have k1 := sTree_c hC hS b1 b2 ns ls hls hcv
  have k2 := catValid_c hC b ss
  have k3 := spans_c hC b' q count hq
  have k4 := sections_c hC b1 b2 b ns ls ss hls
  refine start hC (nf := N473_steady_pipes) rfl rfl ?_
  simp [N473_steady_pipes]
  refine callW_of k1 (.inl rfl) ?_
  unfold givE
  cases ht : treeN ns ls
  · simp
  simp
  refine callW_of k2 (.inl rfl) ?_
  cases hv : catValid ss
  · simp
  simp
  refine callW_of k3 (.inl rfl) ?_
  by_cases h0 : spsE q count = 0
  · simp [h0]
    refine callW_of (k4 hv) (.inl rfl) ?_
    simp [h0]
  · simp [h0]
theorem sFall_c (l : Lnk) (w : IntKind.wrap .i64 (l.up - l.down) = l.up - l.down) : C 474 [.agg (lnkC l)] (.int .i64 (fallF l)) [] := by
  refine start hC (nf := N474_steady_fall) rfl rfl ?_
  simp [N474_steady_fall, lnkC, w, fallF]
theorem Capacity_c (s : Sec) (depth fall len : Int) : C 53 [.agg (secC s), .int .i64 depth, .int .i64 fall, .int .i64 len] (.tup [.int .i64 (capF s depth fall len).1, .int .i64 (capF s depth fall len).2]) [] := by
  have hvc := valid_c hC s
  have hsl := slope_c hC fall len
  have es : (decide (0 ≤ fall) && decide (fall ≤ 4194304) && decide (1 ≤ len) && decide (len ≤ 16777216)) = slopeOk fall len := rfl
  rw [es] at hsl
  obtain ⟨r, hr⟩ : ∃ r, r = capF s depth fall len := ⟨_, rfl⟩
  rw [← hr]
  unfold capF at hr
  have hcc := fun hv hs => carriedG_c hC s depth fall len hv hs
  simp only [secC] at hvc hcc
  refine start hC (nf := N53_catalogue_Capacity) rfl rfl ?_
  simp [N53_catalogue_Capacity, secC]
  refine callW_of hvc (.inl rfl) ?_
  cases hv : secValid s
  · rw [if_neg (by simp [hv])] at hr
    simp [hr]
  rw [if_pos hv] at hr
  simp
  refine brB_of (fun c1 => ?_) (fun c1 => ?_) <;> simp at c1 <;> simp [c1]
  · rw [if_neg (by omega)] at hr
    simp [hr]
  refine brB_of (fun c2 => ?_) (fun c2 => ?_) <;> simp at c2 <;> simp [c2]
  · rw [if_neg (by omega)] at hr
    simp [hr]
  refine callW_of hsl (.inl rfl) ?_
  cases hs : slopeOk fall len
  · rw [if_neg (by simp [hs])] at hr
    simp [hr]
  rw [if_pos ⟨by omega, by omega, hs⟩] at hr
  simp
  refine callW_of (hcc hv hs) (.inl rfl) ?_
  simp
  refine brB_of (fun c3 => ?_) (fun c3 => ?_) <;> simp at c3 <;> simp [c3]
  · rw [if_pos (by omega)] at hr
    simp [hr]
  · rw [if_neg (by omega)] at hr
    simp [hr]
theorem FullG_c (s : Sec) (fall len : Int) : C 47 [.agg (secC s), .int .i64 fall, .int .i64 len] (.tup [.int .i64 (capF s s.height fall len).1, .int .i64 (capF s s.height fall len).2]) [] := by
  have cap := Capacity_c hC s s.height fall len
  rw [secC] at cap
  refine start hC (nf := N47_catalogue_Full) rfl rfl ?_
  simp [N47_catalogue_Full, secC]
  refine callW_of cap (.inl rfl) ?_
  simp
theorem full_c (b : Bool) (ss : List Sec) (l : Lnk) (hv : catValid ss = true) (h : PipOk ss l) : C 475 [slx b (ss.map secC), .agg (lnkC l)] (.tup [.int .i64 (fulF ss l), .int .i64 0]) [] := by
  have k1 := Find_c hC b ss l.sect
  rw [h.find hv] at k1
  have k2 := sFall_c hC l h.wrap
  have k3 := FullG_c hC (secL ss l) (fallF l) l.len
  have hf := h.fall
  have hva := h.valid hv
  obtain ⟨k, hk, hl, e⟩ := h.sec
  obtain ⟨r, hr⟩ : ∃ r, r = fulF ss l := ⟨_, rfl⟩
  rw [← hr]
  unfold fulF at hr
  have h5 : (capF (secL ss l) (secL ss l).height (fallF l) l.len).2 = 5 ∨ (capF (secL ss l) (secL ss l).height (fallF l) l.len).2 = 0 := by
    have : 1 ≤ (secL ss l).height := by simp only [secValid, Bool.and_eq_true, decide_eq_true_eq] at hva; omega
    unfold capF
    rw [if_pos hva, if_pos ⟨by omega, by omega, hf⟩]
    split <;> simp
  generalize capF (secL ss l) (secL ss l).height (fallF l) l.len = c at *
  simp only at k1
  rw [hk] at k1
  rw [e] at k3
  simp only [lnkC, secC] at k2 k3
  refine start hC (nf := N475_steady_full) rfl rfl ?_
  simp [N475_steady_full, lnkC]
  refine callW_of k1 (.inl rfl) ?_
  simp [hl, secC]
  refine callW_of k2 (.inl rfl) ?_
  simp
  refine callW_of k3 (.inl rfl) ?_
  simp
  refine ⟨indW_of (by decide +kernel), ?_⟩
  rcases h5 with h5 | h5 <;> simp [h5] at hr ⊢
  · simp [hr]
  · simp [hr]
end Go.Gv

set_option linter.unusedSimpArgs false
namespace Go.Gv
variable {C : CC} (hC : Closed prog C)
include hC
theorem rSpOk_c (s : Sp) : C 501 [.agg (knD s)] (.bool (spOk s)) [] := by
  refine start hC (nf := N501_ref04_Valid) rfl rfl ?_
  simp [N501_ref04_Valid, knD]
  by_cases h1 : s.1 ≤ s.2 <;> by_cases h2 : -72057594037927936 ≤ s.1 <;> by_cases h3 : s.2 ≤ 72057594037927936 <;> simp [spOk, fitS, h1, h2, h3]
  constructor <;> omega
theorem rSpans_c (b : Bool) (l : List Sp) (count : Int) (hl : l.length < 2 ^ 62) : C 465 [slx b (l.map knD), .int .i64 count] (.int .i64 (spsE l count)) [] := by
  have k1 := fun s => rSpOk_c hC s
  simp only [knD] at k1
  refine start hC (nf := N465_ref30_spans) rfl rfl ?_
  simp [N465_ref30_spans]
  refine loop_of Nat (fun i => [(0, slx b (l.map knD)), (1, .int .i64 count), (5, .int .i64 i)]) (fun i => i ≤ l.length ∧ ∀ (j : Nat) (h : j < l.length), j < i → spOk l[j] = true) (fun i => l.length - i) 0 (by simp) (by simp) ?_
  rintro i ⟨hi, hj⟩
  simp
  refine brB_of (fun h => ?_) (fun h => ?_) <;> simp [h] <;> simp at h
  · have hw : IntKind.wrap .i64 ((i : Int) + 1) = ((i + 1 : Nat) : Int) := wrap_i64 (by omega) (by omega)
    simp [h, knD]
    refine callW_of (k1 _) (.inl rfl) ?_
    cases h1 : spOk l[i]
    · simp
      have : l.any (fun s => !spOk s) = true := List.any_eq_true.2 ⟨l[i], List.getElem_mem h, by simp [h1]⟩
      rw [spsE, if_pos this]
    · simp [hw]
      refine ⟨i + 1, ⟨by omega, fun j hl hjj => ?_⟩, by omega, by omega⟩
      rcases Nat.lt_succ_iff_lt_or_eq.1 hjj with h2 | rfl
      · exact hj j hl h2
      · exact h1
  · have hno : l.any (fun s => !spOk s) = false := by
      rw [List.any_eq_false]
      intro x hx
      obtain ⟨j, hjl, rfl⟩ := List.getElem_of_mem hx
      simp [hj j hjl (by omega)]
    clear hj h hi
    unfold spsE
    rw [hno]
    by_cases h : (l.length : Int) = count
    rotate_left
    · simp [h]
    simp [h]
    refine loop_of Nat (fun i => [(0, slx b (l.map knD)), (6, .int .i64 i)]) (fun i => i ≤ l.length ∧ ∀ (j : Nat) (h : j < l.length), j < i → spRg l[j] = false) (fun i => l.length - i) 0 (by simp) (by simp) ?_
    rintro i ⟨hi, hj⟩
    simp
    refine brB_of (fun g => ?_) (fun g => ?_) <;> simp [g] <;> simp at g
    · have hw : IntKind.wrap .i64 ((i : Int) + 1) = ((i + 1 : Nat) : Int) := wrap_i64 (by omega) (by omega)
      have yes : spRg l[i] = true → l.any spRg = true := fun e => List.any_eq_true.2 ⟨l[i], List.getElem_mem g, e⟩
      have no : spRg l[i] = false → ∃ i' : Nat, (i' ≤ l.length ∧ ∀ (j : Nat) (h : j < l.length), j < i' → spRg l[j] = false) ∧ l.length - i' < l.length - i ∧ (i : Int) + 1 = i' := fun e => by
        refine ⟨i + 1, ⟨by omega, fun j hl hjj => ?_⟩, by omega, by omega⟩
        rcases Nat.lt_succ_iff_lt_or_eq.1 hjj with h2 | rfl
        · exact hj j hl h2
        · exact e
      simp [g, knD]
      by_cases a1 : l[i].1 < 0
      · have := yes (by simp [spRg, a1])
        simp [a1, this, h]
      · by_cases a2 : 1099511627776 < l[i].2
        · have := yes (by simp [spRg, a2])
          simp [a1, a2, this, h, g, knD]
        · obtain ⟨i', b1, b2, b3⟩ := no (by simp [spRg, a1, a2])
          simp [a1, a2, hw, g, knD]
          exact ⟨i', b1, b2, by omega⟩
    · have hno : l.any spRg = false := by
        rw [List.any_eq_false]
        intro x hx
        obtain ⟨j, hjl, rfl⟩ := List.getElem_of_mem hx
        simp [hj j hjl (by omega)]
      simp [hno, h]
theorem rPipes_c (b1 b2 b : Bool) (ns : List Nod) (ls : List Lnk) (ss : List Sec) (hls : ls.length < 2 ^ 62) (hss : ss.length < 2 ^ 62) : C 479 [.agg [slx b1 (ns.map nodC), slx b2 (ls.map lnkC)], slx b (ss.map secC)] (.int .i64 (pipE ls ss)) [] := by
  have k1 := fun nm => rFind_c hC b ss nm hss
  refine start hC (nf := N479_ref30_pipes) rfl rfl ?_
  simp [N479_ref30_pipes]
  refine loop_of Nat (fun i => [(1, slx b (ss.map secC)), (2, .ptr [slx b1 (ns.map nodC), slx b2 (ls.map lnkC)]), (5, .int .i64 i)]) (fun i => i ≤ ls.length ∧ ∀ (j : Nat) (h : j < ls.length), j < i → noSec ss ls[j] = false) (fun i => ls.length - i) 0 (by simp) (by simp) ?_
  rintro i ⟨hi, hj⟩
  simp
  refine brB_of (fun h => ?_) (fun h => ?_) <;> simp [h] <;> simp at h
  · have hw : IntKind.wrap .i64 ((i : Int) + 1) = ((i + 1 : Nat) : Int) := wrap_i64 (by omega) (by omega)
    simp [h, lnkC]
    refine callW_of (k1 _) (.inl rfl) ?_
    have e : idxD (nameIs ls[i].sect) ss = secI ss ls[i].sect := rfl
    rw [e]
    simp
    refine brB_of (fun h1 => ?_) (fun h1 => ?_) <;> simp [h1] <;> simp at h1
    · have : ls.any (noSec ss) = true := List.any_eq_true.2 ⟨ls[i], List.getElem_mem h, by simp [noSec]; omega⟩
      rw [pipE, if_pos this]
    · simp [hw]
      refine ⟨i + 1, ⟨by omega, fun j hl hjj => ?_⟩, by omega, by omega⟩
      rcases Nat.lt_succ_iff_lt_or_eq.1 hjj with h2 | rfl
      · exact hj j hl h2
      · simp [noSec]; omega
  · have hno : ls.any (noSec ss) = false := by
      rw [List.any_eq_false]
      intro x hx
      obtain ⟨j, hjl, rfl⟩ := List.getElem_of_mem hx
      simp [hj j hjl (by omega)]
    clear hj h hi
    unfold pipE
    rw [hno]
    refine loop_of Nat (fun i => [(2, .ptr [slx b1 (ns.map nodC), slx b2 (ls.map lnkC)]), (6, .int .i64 i)]) (fun i => i ≤ ls.length ∧ ∀ (j : Nat) (h : j < ls.length), j < i → uphill ls[j] = false) (fun i => ls.length - i) 0 (by simp) (by simp) ?_
    rintro i ⟨hi, hj⟩
    simp
    refine brB_of (fun g => ?_) (fun g => ?_) <;> simp [g] <;> simp at g
    · have hw : IntKind.wrap .i64 ((i : Int) + 1) = ((i + 1 : Nat) : Int) := wrap_i64 (by omega) (by omega)
      simp [g, lnkC]
      refine ⟨indW_of (by decide +kernel), ?_⟩
      refine brB_of (fun h1 => ?_) (fun h1 => ?_) <;> simp [h1] <;> simp at h1
      · have : ls.any uphill = true := List.any_eq_true.2 ⟨ls[i], List.getElem_mem g, by simp [uphill]; omega⟩
        exact ⟨_, List.getElem_mem g, by simp [uphill]; omega⟩
      · simp [hw]
        refine ⟨i + 1, ⟨by omega, fun j hl hjj => ?_⟩, by omega, by omega⟩
        rcases Nat.lt_succ_iff_lt_or_eq.1 hjj with h2 | rfl
        · exact hj j hl h2
        · simp [uphill]; omega
    · have hno : ls.any uphill = false := by
        rw [List.any_eq_false]
        intro x hx
        obtain ⟨j, hjl, rfl⟩ := List.getElem_of_mem hx
        simp [hj j hjl (by omega)]
      simpa using hno
theorem rGiven_c (b1 b2 b b' nodes : Bool) (ns : List Nod) (ls : List Lnk) (ss : List Sec) (q : List Sp) (hls : ls.length < 2 ^ 62) (hss : ss.length < 2 ^ 62) (hq : q.length < 2 ^ 62) : C 440 [.agg [slx b1 (ns.map nodC), slx b2 (ls.map lnkC)], slx b (ss.map secC), slx b' (q.map knD), .bool nodes] (.int .i64 (givE ns ls ss q (if nodes then (ns.length : Int) else ls.length))) [] := by
  have k1 := rTree_c hC b1 b2 ns ls
  have k2 := rcat_c hC b ss
  have k3 := fun count => rSpans_c hC b' q count hq
  have k4 := rPipes_c hC b1 b2 b ns ls ss hls hss
  refine start hC (nf := N440_ref30_Given) rfl rfl ?_
  simp [N440_ref30_Given]
  refine callW_of k1 (.inl rfl) ?_
  unfold givE
  cases ht : treeN ns ls
  · simp
  simp
  refine callW_of k2 (.inl rfl) ?_
  cases hv : catValid ss
  · simp
  simp
  cases nodes
  · simp
    refine callW_of (k3 _) (.inl rfl) ?_
    by_cases h0 : spsE q ls.length = 0
    · simp [h0]
      refine callW_of k4 (.inl rfl) ?_
      simp [h0]
    · simp [h0]
  · simp
    refine callW_of (k3 _) (.inl rfl) ?_
    by_cases h0 : spsE q ns.length = 0
    · simp [h0]
      refine callW_of k4 (.inl rfl) ?_
      simp [h0]
    · simp [h0]
end Go.Gv

set_option linter.unusedSimpArgs false
namespace Go.Gv
def dRes (ss : List Sec) (l : Lnk) (n : Int) : Int × Int := depthF (secL ss l) n (fallF l) l.len
def dBad (ss : List Sec) (l : Lnk) (s : Sp) : Bool := !decide ((dRes ss l s.1).2 = 0) || !decide ((dRes ss l s.2).2 = 0)
def dSp (ss : List Sec) (l : Lnk) (s : Sp) : Sp := ((dRes ss l s.1).1, (dRes ss l s.2).1)
def anyBad (ss : List Sec) (ls : List Lnk) (q : List Sp) : Bool := (ls.zip q).any fun p => dBad ss p.1 p.2
def depL (ss : List Sec) (ls : List Lnk) (q : List Sp) : List Sp := List.zipWith (dSp ss) ls q
def DepE (ns : List Nod) (ls : List Lnk) (ss : List Sec) (q : List Sp) : Int := if givE ns ls ss q ls.length = 0 then (if anyBad ss ls q then 28 else 0) else givE ns ls ss q ls.length
def DepV (ns : List Nod) (ls : List Lnk) (ss : List Sec) (q : List Sp) : D := if DepE ns ls ss q = 0 then .sl ((depL ss ls q).map knD) else .nils
def spT (l : List Sp) (j : Nat) : List (List D) := (l.take j).map knD
theorem spsE_get {q : List Sp} {n : Nat} (h : spsE q n = 0) : q.length = n ∧ ∀ s ∈ q, 0 ≤ s.1 ∧ s.1 ≤ s.2 ∧ s.2 ≤ 1099511627776 := by
  unfold spsE at h
  split at h
  · cases h
  rename_i h1
  split at h
  · rename_i h0
    split at h
    · cases h
    · rename_i h2
      refine ⟨by omega, fun s hs => ?_⟩
      simp only [Bool.not_eq_true, List.any_eq_false] at h1 h2
      have a := h1 s hs
      have b := h2 s hs
      simp only [spOk, spRg, Bool.not_eq_true', Bool.not_eq_false', Bool.and_eq_true, decide_eq_true_eq, Bool.or_eq_true, not_or] at a b
      simp at a b
      omega
  · cases h
variable {C : CC} (hC : Closed prog C)
include hC
end Go.Gv

set_option linter.unusedSimpArgs false
namespace Go.Gv
end Go.Gv

set_option linter.unusedSimpArgs false
namespace Go.Gv
end Go.Gv

set_option linter.unusedSimpArgs false
namespace Go.Gv
def ldSp (ss : List Sec) (l : Lnk) (s : Sp) : Sp := (1000 * s.1 / fulF ss l, (1000 * s.2 + fulF ss l - 1) / fulF ss l)
def zeroL (ss : List Sec) (l : Lnk) : Bool := decide (fulF ss l = 0)
def ldL (ss : List Sec) (ls : List Lnk) (q : List Sp) : List Sp := List.zipWith (ldSp ss) ls q
def anyZ (ss : List Sec) (ls : List Lnk) : Bool := ls.any (zeroL ss)
def LdE (ns : List Nod) (ls : List Lnk) (ss : List Sec) (q : List Sp) : Int := if givE ns ls ss q ls.length = 0 then (if anyZ ss ls then 16 else 0) else givE ns ls ss q ls.length
def LdV (ns : List Nod) (ls : List Lnk) (ss : List Sec) (q : List Sp) : D := if LdE ns ls ss q = 0 then .sl ((ldL ss ls q).map knD) else .nils
theorem capF_cases {s : Sec} {fall len : Int} (hv : secValid s = true) (hf : slopeOk fall len = true) : (capF s s.height fall len).2 = 5 ∨ ((capF s s.height fall len).2 = 0 ∧ ∃ n : Nat, n ≤ 1099511627776 ∧ (capF s s.height fall len).1 = n) := by
  have : 1 ≤ s.height := by simp only [secValid, Bool.and_eq_true, decide_eq_true_eq] at hv; omega
  unfold capF
  rw [if_pos hv, if_pos ⟨by omega, by omega, hf⟩]
  split
  · exact .inl rfl
  · exact .inr ⟨rfl, _, by omega, rfl⟩
theorem fulF_rng {ss : List Sec} {l : Lnk} (hv : catValid ss = true) (h : PipOk ss l) : ∃ n : Nat, n ≤ 1099511627776 ∧ fulF ss l = n := by
  unfold fulF
  rcases capF_cases (h.valid hv) h.fall with e | ⟨e, n, hn, e2⟩
  · exact ⟨1099511627776, by omega, by rw [if_pos e]; rfl⟩
  · exact ⟨n, hn, by rw [if_neg (by omega)]; exact e2⟩
variable {C : CC} (hC : Closed prog C)
include hC
end Go.Gv

set_option linter.unusedSimpArgs false
namespace Go.Gv
def ovG (ss : List Sec) (f : Sp → Int) (p : Lnk × Sp) : Option (List UInt8) := if fulF ss p.1 < f p.2 then some p.1.name else none
def ovT (ss : List Sec) (f : Sp → Int) (ls : List Lnk) (fl : List Sp) (i : Nat) : List (List UInt8) := ((ls.zip fl).take i).filterMap (ovG ss f)
theorem ovT_succ {ss : List Sec} {f : Sp → Int} {ls : List Lnk} {fl : List Sp} {i : Nat} (h1 : i < ls.length) (h2 : i < fl.length) : ovT ss f ls fl (i + 1) = ovT ss f ls fl i ++ (if fulF ss ls[i] < f fl[i] then [ls[i].name] else []) := by
  have h3 : i < (ls.zip fl).length := by simp; omega
  unfold ovT
  rw [List.take_succ_eq_append_getElem h3, List.filterMap_append]
  congr 1
  have e : (ls.zip fl)[i] = (ls[i], fl[i]) := by simp
  rw [e]
  by_cases c : fulF ss ls[i] < f fl[i] <;> simp [ovG, c]
theorem ovT_len (ss : List Sec) (f : Sp → Int) (ls : List Lnk) (fl : List Sp) (i : Nat) : (ovT ss f ls fl i).length ≤ i := by
  unfold ovT
  have := List.length_filterMap_le (ovG ss f) ((ls.zip fl).take i)
  simp at this
  omega
def strR (l : List (List UInt8)) : List (List D) := l.map fun s => [.str s]
theorem strR_len (l : List (List UInt8)) : (strR l).length = l.length := by simp [strR]
theorem strR_V (l : List (List UInt8)) : (strR l).map (fun e => e.map cellV) = strR l := by
  unfold strR
  rw [List.map_map]
  apply List.map_congr_left
  intro v _
  simp [cellV]
theorem strR_app (l : List (List UInt8)) (s : List UInt8) : strR l ++ [[.str s]] = strR (l ++ [s]) := by simp [strR]
def OvE (ns : List Nod) (ls : List Lnk) (ss : List Sec) (q : List Sp) : Int := if givE ns ls ss q ns.length = 0 then flowsE ns.length (edgN ns ls) q else givE ns ls ss q ns.length
def OvV (f : Sp → Int) (ns : List Nod) (ls : List Lnk) (ss : List Sec) (q : List Sp) : D := if OvE ns ls ss q = 0 then .sl (strR (ovT ss f ls (flowsF ns.length (edgN ns ls) q) ls.length)) else .nils
variable {C : CC} (hC : Closed prog C)
include hC
end Go.Gv

set_option linter.unusedSimpArgs false
namespace Go.Gv
variable {C : CC} (hC : Closed prog C)
include hC
theorem idxEqStr_c (b : Bool) (xs : List (List UInt8)) (s : List UInt8) (hs : xs.length < 2 ^ 62) : C 485 [slx b (strR xs), .str s] (.int .i64 (idxD (fun x => x == s) xs)) [] := by
  refine start hC (nf := N485_slices_Index__string_string) rfl rfl ?_
  simp [N485_slices_Index__string_string, strR]
  refine loop_of Nat (fun i => [(0, slx b (strR xs)), (1, .str s), (7, .int .i64 xs.length), (8, .int .i64 i)]) (fun i => i ≤ xs.length ∧ ∀ (j : Nat) (h : j < xs.length), j < i → (xs[j] == s) = false) (fun i => xs.length - i) 0 (by simp) (by simp [strR]) ?_
  rintro i ⟨hi, hj⟩
  simp [strR]
  refine brB_of (fun h => ?_) (fun h => ?_) <;> simp [h] <;> simp at h
  · have hw : IntKind.wrap .i64 ((i : Int) + 1) = ((i + 1 : Nat) : Int) := wrap_i64 (by omega) (by omega)
    simp [h]
    by_cases h1 : s = xs[i]
    · simp [← h1]
      rw [idxD_step hj h (by simp [h1])]
    · simp [h1, hw]
      refine ⟨i + 1, ⟨by omega, fun j hl hjj => ?_⟩, by omega, by omega⟩
      rcases Nat.lt_succ_iff_lt_or_eq.1 hjj with h2 | rfl
      · simpa using hj j hl h2
      · exact fun e => h1 e.symm
  · rw [idxD_none (fun j hl => by simpa using hj j hl (by omega))]
theorem hasStr_c (b : Bool) (xs : List (List UInt8)) (s : List UInt8) (hs : xs.length < 2 ^ 62) : C 450 [slx b (strR xs), .str s] (.bool (xs.contains s)) [] := by
  have hss : slx b (strR xs) = .nils ∨ slx b (strR xs) = .sl (strR xs) := by
    unfold slx; split
    · exact .inl rfl
    · exact .inr rfl
  have k := idxEqStr_c hC b xs s hs
  have e : xs.contains s = xs.any (fun x => x == s) := by
    rw [Bool.eq_iff_iff]; simp
  rw [e]
  refine start hC (nf := N450_slices_Contains__string_string) rfl rfl ?_
  simp only [N450_slices_Contains__string_string]
  simp
  refine callW_of k (.inl rfl) ?_
  simp [idxD_any]
theorem eqStr_c (b b' : Bool) (xs ys : List (List UInt8)) (hx : xs.length < 2 ^ 62) (hy : ys.length < 2 ^ 62) : C 435 [slx b (strR xs), slx b' (strR ys)] (.bool (decide (xs = ys))) [] := by
  obtain ⟨r, hr⟩ : ∃ r, r = decide (xs = ys) := ⟨_, rfl⟩
  rw [← hr]
  refine start hC (nf := N435_slices_Equal__string_string) rfl rfl ?_
  simp [N435_slices_Equal__string_string, strR]
  refine brB_of (fun h => ?_) (fun h => ?_) <;> simp at h <;> simp [h]
  · rw [hr, decide_eq_false]
    intro e
    exact h (by rw [e])
  have h' : xs.length = ys.length := by omega
  refine loop_of Nat (fun i => [(0, slx b (strR xs)), (1, slx b' (strR ys)), (12, .int .i64 xs.length), (13, .int .i64 i)])
    (fun i => i ≤ xs.length ∧ ∀ (k : Nat) (h1 : k < xs.length) (h2 : k < ys.length), k < i → xs[k] = ys[k]) (fun i => xs.length - i) 0 (by simp) (by simp [h', strR]) ?_
  rintro i ⟨hi, hok⟩
  simp [strR]
  refine brB_of (fun h1 => ?_) (fun h1 => ?_) <;> simp at h1 <;> simp [h1]
  · have hw : IntKind.wrap .i64 ((i : Int) + 1) = ((i + 1 : Nat) : Int) := wrap_i64 (by omega) (by omega)
    have hy1 : i < ys.length := by omega
    simp [h1, hy1]
    refine ⟨indW_of (by decide +kernel), ?_⟩
    by_cases h2 : xs[i] = ys[i]
    · simp [h2, hw]
      refine ⟨i + 1, ⟨by omega, fun k hk hk' hki => ?_⟩, by omega, by omega⟩
      rcases Nat.lt_succ_iff_lt_or_eq.1 hki with h3 | rfl
      · exact hok k hk hk' h3
      · exact h2
    · simp [h2]
      rw [hr, decide_eq_false]
      intro e
      subst e
      exact h2 rfl
  · rw [hr]
    have : xs = ys := by
      apply List.ext_getElem h'
      intro k a1 a2
      exact hok k a1 a2 (by omega)
    simp [this]
end Go.Gv

set_option linter.unusedSimpArgs false
namespace Go.Gv
def trn (es : List Edg) : List Edg := es.map fun e => (e.2, e.1)
theorem trn_len (es : List Edg) : (trn es).length = es.length := by simp [trn]
theorem trn_in {n : Nat} {es : List Edg} (h : inG n es) : inG n (trn es) := fun e he => by
  obtain ⟨x, hx, rfl⟩ := List.mem_map.1 he
  exact ⟨(h x hx).2, (h x hx).1⟩
def nodNm (ns : List Nod) (k : Nat) : List UInt8 := (ns[k]?.map (·.name)).getD []
def nmT (ns : List Nod) (f : Nat → Bool) : Nat → List (List UInt8)
  | 0 => []
  | k + 1 => nmT ns f k ++ (if f k = true then [nodNm ns k] else [])
theorem nmT_len (ns : List Nod) (f : Nat → Bool) : ∀ k, (nmT ns f k).length ≤ k
  | 0 => by simp [nmT]
  | k + 1 => by
    have := nmT_len ns f k
    unfold nmT
    split <;> simp <;> omega
theorem nodNm_get {ns : List Nod} {k : Nat} (h : k < ns.length) : nodNm ns k = ns[k].name := by simp [nodNm, h]
def trA (es : List Edg) (j : Nat) : List (List D) := (List.range es.length).map fun k => edK (if k < j then (es[k]!.2, es[k]!.1) else es[k]!)
theorem trA_len (es : List Edg) (j : Nat) : (trA es j).length = es.length := by simp [trA]
theorem trA_0 (es : List Edg) : trA es 0 = es.map edK := by
  apply List.ext_getElem
  · simp [trA]
  · intro i h1 h2
    have h3 : i < es.length := by simpa using h2
    simp [trA, h3]
theorem trA_end (es : List Edg) : trA es es.length = (trn es).map edK := by
  apply List.ext_getElem
  · simp [trA, trn]
  · intro i h1 h2
    have h3 : i < es.length := by simpa [trn] using h2
    simp [trA, trn, h3]
theorem trA_get {es : List Edg} {j : Nat} (h : j < es.length) : (trA es j)[j]? = some [.int .i64 es[j].1, .int .i64 es[j].2] := by
  simp [trA, h, edK, knD]
theorem trA_set {es : List Edg} {j : Nat} (h : j < es.length) : (trA es j).set j [.int .i64 es[j].2, .int .i64 es[j].1] = trA es (j + 1) := by
  unfold trA
  rw [set_rm]
  apply List.map_congr_left
  intro k hk
  by_cases e : k = j
  · subst e
    simp [h, edK, knD]
  · have : (k < j) = (k < j + 1) := by apply propext; omega
    simp only [if_neg e, this]
theorem trA_V (es : List Edg) (j : Nat) : (trA es j).map (fun e => e.map cellV) = trA es j := by
  unfold trA
  rw [List.map_map]
  apply List.map_congr_left
  intro v _
  simp [edK, knD, cellV]
def waysE (ns : List Nod) (nm : List UInt8) : Int := if 0 ≤ idxD (nodIs nm) ns then 0 else 9
noncomputable def waysL (ns : List Nod) (te : List Edg) (nm : List UInt8) : List (List UInt8) := nmT ns (rB te (tgs te (idxD (nodIs nm) ns).toNat)) ns.length
noncomputable def waysV (ns : List Nod) (te : List Edg) (nm : List UInt8) : D := if 0 ≤ idxD (nodIs nm) ns then .sl (strR (waysL ns te nm)) else .nils
variable {C : CC} (hC : Closed prog C)
include hC
theorem found_c (d : List D) (i : Int) : C 498 [.agg d, .int .i64 i] (.tup [.int .i64 (if i < 0 then 0 else i), .int .i64 (if i < 0 then 9 else 0)]) [] := by
  refine start hC (nf := N498_network_found) rfl rfl ?_
  simp [N498_network_found]
  refine brB_of (fun h => ?_) (fun h => ?_) <;> simp at h <;> simp [h]
  omega
set_option maxHeartbeats 2000000 in
theorem ways_c (hS : SlC C) (b1 b2 b : Bool) (ns : List Nod) (ls : List Lnk) (te : List Edg) (nm : List UInt8) (hn : ns.length ≤ 300) (he : te.length ≤ 1000) (hg : inG ns.length te) : C 500 [.agg [slx b1 (ns.map nodC), slx b2 (ls.map lnkC)], .str nm, slx b (te.map edK)] (.tup [waysV ns te nm, .int .i64 (waysE ns nm)]) [] := by
  have k1 := node_c hC b1 b2 ns ls nm (by omega)
  have k2 := found_c hC [slx b1 (ns.map nodC), slx b2 (ls.map lnkC)] (idxD (nodIs nm) ns)
  refine start hC (nf := N500_network_ways) rfl rfl ?_
  simp [N500_network_ways]
  refine callW_of k1 (.inl rfl) ?_
  simp
  refine callW_of k2 (.inl rfl) ?_
  simp
  refine ⟨indW_of (by decide +kernel), ?_⟩
  unfold waysV waysE
  by_cases h0 : idxD (nodIs nm) ns < 0
  · simp [h0, show ¬ 0 ≤ idxD (nodIs nm) ns by omega]
  have hx := idxD_lt (show 0 ≤ idxD (nodIs nm) ns by omega)
  unfold waysL
  obtain ⟨x, hxe⟩ : ∃ x : Nat, idxD (nodIs nm) ns = x := ⟨(idxD (nodIs nm) ns).toNat, by omega⟩
  rw [hxe] at hx ⊢
  simp at hx
  have h0' : ¬ (x : Int) < 0 := by omega
  have hgl := tgs_len te x
  have hgf : ∀ s ∈ tgs te x, s < ns.length := fun s hs => (hg _ (mem_tgs.1 hs)).2
  have k3 := gReach_c hC hS (b := b) (b' := false) hn he hg (tgs te x) hgf (by omega)
  rw [slx_false] at k3
  simp [h0']
  refine loop_of Nat (fun j => [(2, slx b (te.map edK)), (3, .ptr [slx b1 (ns.map nodC), slx b2 (ls.map lnkC)]), (8, .int .i64 x), (10, .ref (.r 10160) 0 (tgs (te.take j) x).length), (10160, .blk 1 (intL (tgs (te.take j) x))), (28, slx b (te.map edK)), (29, .int .i64 te.length), (30, .int .i64 j)]) (fun j => j ≤ te.length) (fun j => te.length - j) 0 (by simp) (by simp [tgs, intL]) ?_
  rintro j hj
  simp
  refine brB_of (fun h => ?_) (fun h => ?_) <;> simp [h] <;> simp at h
  · have hw : IntKind.wrap .i64 ((j : Int) + 1) = ((j + 1 : Nat) : Int) := wrap_i64 (by omega) (by omega)
    have ht := tgs_take h x
    have hl1 := tgs_len (te.take j) x
    have hl2 : (te.take j).length = j := by simp; omega
    generalize tgs (te.take j) x = T at *
    have hT : (intL T).take T.length = intL T := List.take_of_length_le (by rw [intL_len]; exact Nat.le_refl _)
    simp [h, edK, knD]
    by_cases c : te[j].1 = x
    · rw [if_pos c] at ht
      simp [c, h]
      refine ⟨by rw [intL_len]; exact Nat.le_refl _, by omega, ?_⟩
      simp [hw]
      refine ⟨j + 1, by omega, by omega, ?_⟩
      rw [ht, hT]
      simp [intL]
    · rw [if_neg c, List.append_nil] at ht
      have c' : ¬ (te[j].1 : Int) = x := by omega
      simp [c, c', hw]
      exact ⟨j + 1, by omega, by omega, by rw [ht]; simp⟩
  · have ej : j = te.length := by omega
    subst ej
    rw [List.take_of_length_le (Nat.le_refl te.length)]
    have hV : List.take (tgs te x).length (List.map (fun e => List.map cellV e) (intL (tgs te x))) = intL (tgs te x) := by
      have e1 : List.map (fun e => List.map cellV e) (intL (tgs te x)) = intL (tgs te x) := by
        unfold intL
        rw [List.map_map]
        apply List.map_congr_left
        intro v _
        simp [cellV]
      rw [e1, List.take_of_length_le (by rw [intL_len]; exact Nat.le_refl _)]
    simp [intL_len, hV]
    clear hj h
    refine callW_of k3 (.inr rfl) ?_
    generalize rB te (tgs te x) = f at *
    simp
    refine loop_of Nat (fun j => [(13, .sl (boolA ns.length f)), (14, .ref (.r 10224) 0 (nmT ns f j).length), (10224, .blk 1 (strR (nmT ns f j))), (57, slx b1 (ns.map nodC)), (58, .int .i64 ns.length), (59, .int .i64 j)]) (fun j => j ≤ ns.length) (fun j => ns.length - j) 0 (by simp) (by simp [nmT, strR]) ?_
    rintro j hj
    simp
    refine brB_of (fun h => ?_) (fun h => ?_) <;> simp [h] <;> simp at h
    · have hw : IntKind.wrap .i64 ((j : Int) + 1) = ((j + 1 : Nat) : Int) := wrap_i64 (by omega) (by omega)
      have ht : nmT ns f (j + 1) = nmT ns f j ++ (if f j = true then [nodNm ns j] else []) := rfl
      rw [nodNm_get h] at ht
      have hl1 := nmT_len ns f j
      generalize nmT ns f j = T at *
      have hT : (strR T).take T.length = strR T := List.take_of_length_le (by rw [strR_len]; exact Nat.le_refl _)
      simp [h, nodC, idxW_some (boolA_get f h), boolA_get f h, boolA_len]
      by_cases c : f j = true
      · rw [if_pos c] at ht
        simp [c, h]
        refine ⟨by rw [strR_len]; exact Nat.le_refl _, by omega, ?_⟩
        simp [hw]
        refine ⟨j + 1, by omega, by omega, ?_⟩
        rw [ht, hT]
        simp [strR]
      · rw [if_neg c, List.append_nil] at ht
        have c' : f j = false := by simpa using c
        simp [c', hw]
        exact ⟨j + 1, by omega, by omega, by rw [ht]; simp⟩
    · have ej : j = ns.length := by omega
      subst ej
      rw [strR_V, List.take_of_length_le (by rw [strR_len]; exact Nat.le_refl _)]
      exact ⟨by rw [strR_len]; exact Nat.le_refl _, rfl⟩
def AboveE (ns : List Nod) (ls : List Lnk) (nm : List UInt8) : Int := if netOk ns ls = true then waysE ns nm else 1
noncomputable def AboveV (ns : List Nod) (ls : List Lnk) (nm : List UInt8) : D := if netOk ns ls = true then waysV ns (trn (edgN ns ls)) nm else .nils
set_option maxHeartbeats 2000000 in
theorem Above_c (hS : SlC C) (b1 b2 : Bool) (ns : List Nod) (ls : List Lnk) (nm : List UInt8) (hcv : ∀ l ∈ ls, l.curve.length < 2 ^ 62) (hv : netOk ns ls = true) : C 464 [.agg [slx b1 (ns.map nodC), slx b2 (ls.map lnkC)], .str nm] (.tup [waysV ns (trn (edgN ns ls)) nm, .int .i64 (waysE ns nm)]) [] := by
  have k1 := netOk_c hC b1 b2 ns ls hcv
  have k2 := nEdgesF_c hC b1 b2 ns ls hv
  obtain ⟨l1, l2⟩ := netOk_len hv
  have hg := edgN_in hv
  have hel := edgN_len ns ls
  have k3 := ways_c hC hS b1 b2 false ns ls (trn (edgN ns ls)) nm l1 (by rw [trn_len]; omega) (trn_in hg)
  rw [slx_false] at k3
  rw [hv] at k1
  have hV : ∃ c l, waysV ns (trn (edgN ns ls)) nm = slx c (strR l) := by
    unfold waysV
    split
    · exact ⟨false, _, rfl⟩
    · exact ⟨true, [], rfl⟩
  obtain ⟨c, l, hV⟩ := hV
  rw [hV] at k3 ⊢
  generalize edgN ns ls = es at *
  refine start hC (nf := N464_network_Above) rfl rfl ?_
  simp [N464_network_Above]
  refine callW_of k1 (.inl rfl) ?_
  simp
  refine callFW_of k2 ?_
  simp
  refine loop_of Nat (fun j => [(1, .str nm), (2, .ptr [slx b1 (ns.map nodC), slx b2 (ls.map lnkC)]), (6, .ref (.r 10096) 0 es.length), (14, .ref (.r 10096) 0 es.length), (15, .int .i64 es.length), (16, .int .i64 j), (10096, .blk 2 (trA es j))]) (fun j => j ≤ es.length) (fun j => es.length - j) 0 (by simp) (by simp [trA_0]) ?_
  rintro j hj
  simp
  refine brB_of (fun h => ?_) (fun h => ?_) <;> simp [h] <;> simp at h
  · have hw : IntKind.wrap .i64 ((j : Int) + 1) = ((j + 1 : Nat) : Int) := wrap_i64 (by omega) (by omega)
    have hs := trA_set h
    have hgj : (trA es j)[j]'(by rw [trA_len]; exact h) = [.int .i64 es[j].1, .int .i64 es[j].2] := by
      have := trA_get h
      rw [List.getElem?_eq_getElem (by rw [trA_len]; exact h)] at this
      exact Option.some.inj this
    simp [h, trA_len, rowW_some (trA_get h), trA_get h, hgj, hw]
    exact ⟨j + 1, by omega, by omega, by omega, hs⟩
  · have ej : j = es.length := by omega
    subst ej
    have hV : List.take es.length (List.map (fun e => List.map cellV e) (List.map edK (trn es))) = List.map edK (trn es) := by
      rw [← trA_end, trA_V, List.take_of_length_le (by rw [trA_len]; exact Nat.le_refl _)]
    rw [trA_end, hV]
    refine ⟨by simp [trn], ?_⟩
    refine callW_of k3 (.inr rfl) ?_
    simp
end Go.Gv

set_option linter.unusedSimpArgs false
namespace Go.Gv
def noutW (n : Nat) (out : Nat → Bool) : Nat := wtS (fun v => if out v = true then 0 else 1) n
variable {C : CC} (hC : Closed prog C)
include hC
end Go.Gv

set_option linter.unusedSimpArgs false
namespace Go.Gv
noncomputable def upsR (es : List Edg) (x : Nat) : Nat → Bool := rB (trn es) (tgs (trn es) x)
variable {C : CC} (hC : Closed prog C)
include hC
noncomputable def upX (ns : List Nod) (ls : List Lnk) (x v : Nat) : Bool := if v = x then true else upsR (edgN ns ls) x v
theorem edgN_src {ns : List Nod} {ls : List Lnk} (hv : netOk ns ls = true) {k : Nat} (hk : k < ls.length) : idxD (nodIs ls[k].src) ns = (((edgN ns ls)[k]'(by rw [edgN_len]; exact hk)).1 : Nat) := by
  obtain ⟨_, _, g1, g2⟩ := netOk_lnk hv hk
  simp only [edgN, List.getElem_map]
  omega
end Go.Gv

set_option linter.unusedSimpArgs false
namespace Go.Gv
def bigNod (n : Nod) : Bool := decide (110 < n.shape.length) || decide (100 < n.name.length)
def bigLnk (l : Lnk) : Bool := decide (110 < l.curve.length) || decide (100 < l.name.length) || decide (100 < l.src.length) || decide (100 < l.dst.length) || decide (100 < l.sect.length)
def bigSec (s : Sec) : Bool := decide (110 < s.area.length) || decide (110 < s.conv.length) || decide (100 < s.name.length)
def large30 (ns : List Nod) (ls : List Lnk) (ss : List Sec) (k : Nat) : Bool := decide (12 < ns.length) || decide (20 < ls.length) || decide (12 < ss.length) || decide (25 < k) || ns.any bigNod || ls.any bigLnk || ss.any bigSec
def exNod (nm : UInt8) : Nod := ⟨[nm], 1, 0, 0, 0, 9, false, [(0, 0), (9, 5)], false, 0⟩
def exLnk (nm a b : UInt8) : Lnk := ⟨[nm], [a], [b], 1, 5, 3, 0, [115], 0, 0, true, []⟩
def exN : List Nod := [exNod 97, exNod 98, ⟨[111], 3, 0, 0, 0, 0, true, [], false, 0⟩]
def exL : List Lnk := [exLnk 112 97 98, exLnk 113 98 111]
variable {C : CC} (hC : Closed prog C)
include hC
theorem bigNod_c (n : Nod) : C 454 [.agg (nodC n)] (.bool (bigNod n)) [] := by
  refine start hC (nf := N454_law30_large_1) rfl rfl ?_
  simp [N454_law30_large_1, nodC]
  unfold bigNod
  by_cases h1 : (110 : Int) < n.shape.length
  · simp [h1, show 110 < n.shape.length by omega]
  · simp [h1, show ¬ 110 < n.shape.length by omega]
    omega
theorem bigLnk_c (l : Lnk) : C 456 [.agg (lnkC l)] (.bool (bigLnk l)) [] := by
  refine start hC (nf := N456_law30_large_2) rfl rfl ?_
  simp [N456_law30_large_2, lnkC]
  unfold bigLnk
  by_cases h1 : (110 : Int) < l.curve.length
  · simp [h1, show 110 < l.curve.length by omega]
  by_cases h2 : (100 : Int) < l.name.length
  · simp [h1, h2, show 100 < l.name.length by omega]
  by_cases h3 : (100 : Int) < l.src.length
  · simp [h1, h2, h3, show 100 < l.src.length by omega]
  by_cases h4 : (100 : Int) < l.dst.length
  · simp [h1, h2, h3, h4, show 100 < l.dst.length by omega]
  simp [h1, h2, h3, h4, show ¬ 110 < l.curve.length by omega, show ¬ 100 < l.name.length by omega, show ¬ 100 < l.src.length by omega, show ¬ 100 < l.dst.length by omega]
  omega
theorem bigSec_c (s : Sec) : C 457 [.agg (secC s)] (.bool (bigSec s)) [] := by
  refine start hC (nf := N457_law30_large_3) rfl rfl ?_
  simp [N457_law30_large_3, secC]
  unfold bigSec
  by_cases h1 : (110 : Int) < s.area.length
  · simp [h1, show 110 < s.area.length by omega]
  by_cases h2 : (110 : Int) < s.conv.length
  · simp [h1, h2, show 110 < s.conv.length by omega]
  simp [h1, h2, show ¬ 110 < s.area.length by omega, show ¬ 110 < s.conv.length by omega]
  omega
theorem large30_c (b1 b2 b3 b4 : Bool) (ns : List Nod) (ls : List Lnk) (ss : List Sec) (q : List Sp) (h1 : ns.length < 2 ^ 62) (h2 : ls.length < 2 ^ 62) (h3 : ss.length < 2 ^ 62) : C 426 [.agg [slx b1 (ns.map nodC), slx b2 (ls.map lnkC)], slx b3 (ss.map secC), slx b4 (q.map knD)] (.bool (large30 ns ls ss q.length)) [] := by
  have k1 := hasNod_c hC (b := b1) (xs := ns) (g := 454) (cs := []) bigNod h1 (fun x _ => bigNod_c hC x)
  have k2 := hasLnk_c hC (b := b2) (xs := ls) (g := 456) (cs := []) bigLnk h2 (fun x _ => bigLnk_c hC x)
  have k3 := hasSec_c hC (b := b3) (xs := ss) (g := 457) (cs := []) bigSec h3 (fun x _ => bigSec_c hC x)
  refine start hC (nf := N426_law30_large) rfl rfl ?_
  simp [N426_law30_large]
  unfold large30
  by_cases c1 : (12 : Int) < ns.length
  · simp [c1, show 12 < ns.length by omega]
  by_cases c2 : (20 : Int) < ls.length
  · simp [c1, c2, show 20 < ls.length by omega]
  by_cases c3 : (12 : Int) < ss.length
  · simp [c1, c2, c3, show 12 < ss.length by omega]
  by_cases c4 : (25 : Int) < q.length
  · simp [c1, c2, c3, c4, show 25 < q.length by omega]
  simp [c1, c2, c3, c4, show ¬ 12 < ns.length by omega, show ¬ 20 < ls.length by omega, show ¬ 12 < ss.length by omega, show ¬ 25 < q.length by omega]
  refine callW_of k1 (.inl rfl) ?_
  cases d1 : ns.any bigNod
  · simp
    refine callW_of k2 (.inl rfl) ?_
    cases d2 : ls.any bigLnk
    · simp
      refine callW_of k3 (.inl rfl) ?_
      simp
      intro h; omega
    · simp
  · simp
theorem exNode_c (nm : UInt8) : C 486 [.str [nm]] (.agg (nodC (exNod nm))) [] := by
  refine start hC (nf := N486_law30_example_1) rfl rfl ?_
  simp [N486_law30_example_1, nodC, exNod, knD]
theorem exLink_c (nm a b : UInt8) : C 487 [.str [nm], .str [a], .str [b]] (.agg (lnkC (exLnk nm a b))) [] := by
  refine start hC (nf := N487_law30_example_2) rfl rfl ?_
  simp [N487_law30_example_2, lnkC, exLnk, knD]
  rfl
theorem ex30_c : C 452 [] (.agg [.sl (exN.map nodC), .sl (exL.map lnkC)]) [] := by
  have k1 := exNode_c hC 97
  have k2 := exNode_c hC 98
  have k3 := exLink_c hC 112 97 98
  have k4 := exLink_c hC 113 98 111
  have e0 : slx true ([] : List (List D)) = .nils := rfl
  simp [nodC, exNod, knD] at k1 k2
  simp [lnkC, exLnk, e0] at k3 k4
  refine start hC (nf := N452_law30_example) rfl rfl ?_
  simp [N452_law30_example]
  refine callW_of k1 (.inr rfl) ?_
  simp
  refine callW_of k2 (.inr rfl) ?_
  simp
  refine callW_of k3 (.inr rfl) ?_
  simp
  refine callW_of k4 (.inr rfl) ?_
  simp
  exact ⟨rfl, rfl⟩
theorem eqSp_c (b b' : Bool) (xs ys : List (Int × Int)) (hx : xs.length < 2 ^ 62) (hy : ys.length < 2 ^ 62) : C 434 [slx b (xs.map knD), slx b' (ys.map knD)] (.bool (decide (xs = ys))) [] := by
  obtain ⟨r, hr⟩ : ∃ r, r = decide (xs = ys) := ⟨_, rfl⟩
  rw [← hr]
  refine start hC (nf := N434_slices_Equal__api_Span_api_Span) rfl rfl ?_
  simp [N434_slices_Equal__api_Span_api_Span]
  refine brB_of (fun h => ?_) (fun h => ?_) <;> simp at h <;> simp [h]
  · rw [hr, decide_eq_false]
    intro e
    exact h (by rw [e])
  have h' : xs.length = ys.length := by omega
  refine loop_of Nat (fun i => [(0, slx b (xs.map knD)), (1, slx b' (ys.map knD)), (12, .int .i64 xs.length), (13, .int .i64 i)])
    (fun i => i ≤ xs.length ∧ ∀ (k : Nat) (h1 : k < xs.length) (h2 : k < ys.length), k < i → xs[k] = ys[k]) (fun i => xs.length - i) 0 (by simp) (by simp [h']) ?_
  rintro i ⟨hi, hok⟩
  simp
  refine brB_of (fun h1 => ?_) (fun h1 => ?_) <;> simp at h1 <;> simp [h1]
  · have hw : IntKind.wrap .i64 ((i : Int) + 1) = ((i + 1 : Nat) : Int) := wrap_i64 (by omega) (by omega)
    have hy1 : i < ys.length := by omega
    simp [h1, hy1, knD]
    refine ⟨indW_of (by decide +kernel), ?_⟩
    by_cases h2 : xs[i] = ys[i]
    · simp [h2, hw]
      refine ⟨i + 1, ⟨by omega, fun k k1 k2 hk => ?_⟩, by omega, rfl⟩
      rcases Nat.lt_succ_iff_lt_or_eq.1 hk with h5 | rfl
      · exact hok k k1 k2 h5
      · exact h2
    · have h3 : ¬ (xs[i].1 = ys[i].1 ∧ xs[i].2 = ys[i].2) := fun e => h2 (Prod.ext e.1 e.2)
      refine brB_of (fun h4 => ?_) (fun h4 => ?_) <;> simp at h4 <;> simp [h4]
      · rw [hr, decide_eq_false]
        intro e
        exact h2 (by simp [e])
      · exact absurd h4 h3
  · rw [hr, decide_eq_true]
    exact List.ext_getElem h' fun k k1 k2 => hok k k1 k2 (by omega)
theorem awake30_c (hS : SlC C) : C 425 [] (.bool true) [] := by
  have k1 := ex30_c hC
  have k2 := Flows_c hC hS false false false exN exL [(1, 2), (3, 5), (0, 9)] (by decide) (by decide) (by decide)
  have k3 := sTree_c hC hS false false exN exL (by decide) (by decide)
  have e1 : FlowsE exN exL [(1, 2), (3, 5), (0, 9)] = 0 := by decide +kernel
  have e2 : flowsF exN.length (edgN exN exL) [(1, 2), (3, 5), (0, 9)] = [(1, 2), (4, 7)] := by decide +kernel
  have e3 : treeN exN exL = true := by decide +kernel
  have k4 := eqSp_c hC false false [(1, 2), (4, 7)] [(1, 2), (4, 7)] (by decide) (by decide)
  rw [FlowsV, e1, if_pos rfl, e2] at k2
  rw [e3] at k3
  simp only [slx_false] at k2 k3 k4
  refine start hC (nf := N425_law30_awake) rfl rfl ?_
  simp [N425_law30_awake]
  refine callW_of k1 (.inr rfl) ?_
  simp [knD] at k2 ⊢
  refine callW_of k2 (.inr rfl) ?_
  simp
  refine callW_of k1 (.inr rfl) ?_
  simp
  refine callW_of k3 (.inl rfl) ?_
  simp [knD] at k4 ⊢
  refine callW_of k4 (.inl rfl) ?_
  simp
end Go.Gv

set_option linter.unusedSimpArgs false
namespace Go.Gv
variable {C : CC} (hC : Closed prog C)
include hC
end Go.Gv

set_option linter.unusedSimpArgs false
namespace Go.Gv
structure DepthOk (s : Sec) (fall len : Int) (y : Sp) : Prop where
  lo : 0 ≤ y.1
  hi : y.1 ≤ s.height
  fl : y.2 ≤ 1099511627776
  yes : y.2 ≤ (carF s y.1 fall len : Int)
  no : 0 < y.1 → (carF s (y.1 - 1) fall len : Int) < y.2
theorem DepthOk.cap {s : Sec} {fall len : Int} {y : Sp} (h : DepthOk s fall len y) (hs : secValid s = true) (hf : slopeOk fall len = true) : (capF s y.1 fall len).2 = 5 ∨ ((capF s y.1 fall len).2 = 0 ∧ y.2 ≤ (capF s y.1 fall len).1) := by
  have := h.yes
  unfold capF
  rw [if_pos hs, if_pos ⟨h.lo, h.hi, hf⟩]
  split
  · exact .inl rfl
  · exact .inr ⟨rfl, this⟩
variable {C : CC} (hC : Closed prog C)
include hC
end Go.Gv

set_option linter.unusedSimpArgs false
namespace Go.Gv
variable {C : CC} (hC : Closed prog C)
include hC
end Go.Gv

set_option linter.unusedSimpArgs false
namespace Go.Gv
def ptN (at' : List Int) (i : Nat) (s : Sp) : Int := if at'.length = 0 then s.1 else s.1 + at'[i % at'.length]! % (s.2 - s.1 + 1)
def ptS (at' : List Int) (i : Nat) (s : Sp) : Sp := (ptN at' i s, ptN at' i s)
def ptL (at' : List Int) (q : List Sp) : List Sp := (List.range q.length).map fun i => ptS at' i q[i]!
def insS (a b : Sp) : Bool := decide (b.1 ≤ a.1) && decide (a.2 ≤ b.2)
variable {C : CC} (hC : Closed prog C)
include hC
end Go.Gv

set_option linter.unusedSimpArgs false
namespace Go.Gv
theorem spsE_of {l : List Sp} {n : Nat} (h : l.length = n) (h2 : ∀ s ∈ l, 0 ≤ s.1 ∧ s.1 ≤ s.2 ∧ s.2 ≤ 1099511627776) : spsE l n = 0 := by
  unfold spsE
  have a : l.any (fun s => !spOk s) = false := by
    rw [List.any_eq_false]
    intro s hs
    have := h2 s hs
    simp [spOk, fitS]
    omega
  have b : l.any spRg = false := by
    rw [List.any_eq_false]
    intro s hs
    have := h2 s hs
    simp [spRg]
    omega
  rw [a, b]
  simp [h]
structure FlIn (a b : List Sp) : Prop where
  len : b.length = a.length
  get : ∀ (i : Nat) (h : i < a.length) (h' : i < b.length), 0 ≤ a[i].1 ∧ a[i].1 ≤ b[i].1 ∧ b[i].1 = b[i].2 ∧ b[i].2 ≤ a[i].2
theorem bang {l : List Sp} {v : Nat} (h : v < l.length) : l[v]! = l[v] := getElem!_pos l v h
theorem bigF_of {fl : List Sp} (h : ∀ s ∈ fl, s.2 ≤ 1099511627776) : bigF fl = false := by
  unfold bigF
  rw [List.any_eq_false]
  intro s hs
  have := h s hs
  simp
  omega
theorem mem_ovT {ss : List Sec} {f : Sp → Int} {ls : List Lnk} {fl : List Sp} (hl : fl.length = ls.length) {x : List UInt8} : x ∈ ovT ss f ls fl ls.length ↔ ∃ (i : Nat) (h : i < ls.length) (h' : i < fl.length), fulF ss ls[i] < f fl[i] ∧ ls[i].name = x := by
  unfold ovT
  rw [List.take_of_length_le (by simp; omega)]
  simp only [List.mem_filterMap]
  constructor
  · rintro ⟨p, hp, e⟩
    obtain ⟨i, hi, rfl⟩ := List.getElem_of_mem hp
    have hi1 : i < ls.length := by simp at hi; omega
    have hi2 : i < fl.length := by simp at hi; omega
    refine ⟨i, hi1, hi2, ?_⟩
    simp [ovG] at e
    exact e
  · rintro ⟨i, hi1, hi2, c, e⟩
    have hi : i < (ls.zip fl).length := by simp; omega
    refine ⟨(ls.zip fl)[i], List.getElem_mem hi, ?_⟩
    simp [ovG, c, e]
end Go.Gv

set_option linter.unusedSimpArgs false
namespace Go.Gv
theorem Pth.wat {es : List Edg} (hnd : (es.map (·.1)).Nodup) {v x : Nat} (h : Pth es v x) : ∃ m, wat es m v = some x := by
  have cons : ∀ {u v : Nat}, (u, v) ∈ es → ∀ m, Go.Gv.wat es (m + 1) u = Go.Gv.wat es m v := fun {u v} e m => by
    induction m with
    | zero => show (some u).bind (stp es) = some v; exact stp_of hnd e
    | succ m ih =>
      show (Go.Gv.wat es (m + 1) u).bind (stp es) = (Go.Gv.wat es m v).bind (stp es)
      rw [ih]
  induction h with
  | refl v => exact ⟨0, rfl⟩
  | step e _ ih =>
    obtain ⟨m, hm⟩ := ih
    exact ⟨m + 1, by rw [cons e]; exact hm⟩
theorem wat_Pth {es : List Edg} {v : Nat} : ∀ {m x : Nat}, wat es m v = some x → Pth es v x
  | 0, x, h => by simp [wat] at h; subst h; exact .refl v
  | m + 1, x, h => by
    unfold wat at h
    cases e : wat es m v with
    | none => rw [e] at h; cases h
    | some y =>
      rw [e] at h
      exact (wat_Pth e).snoc (stp_some h)
theorem Pth.turn {es : List Edg} {v x : Nat} (h : Pth es v x) : Pth (trn es) x v := by
  induction h with
  | refl v => exact .refl v
  | step e _ ih => exact ih.snoc (List.mem_map.2 ⟨_, e, rfl⟩)
theorem Pth.turn2 {es : List Edg} {v x : Nat} (h : Pth (trn es) x v) : Pth es v x := by
  have := h.turn
  have e : trn (trn es) = es := by
    unfold trn
    rw [List.map_map]
    exact List.map_id es
  rwa [e] at this
theorem upX_eq {n : Nat} {es : List Edg} (hg : inG n es) (ht : treeF n es = true) {x v : Nat} (hv : v < n) : (if v = x then true else upsR es x v) = upB n es v x := by
  simp only [treeF, Bool.and_eq_true, decide_eq_true_eq] at ht
  obtain ⟨hnd, hlen⟩ := ht
  have key : upB n es v x = true ↔ Pth es v x := by
    unfold upB
    rw [List.any_eq_true]
    constructor
    · rintro ⟨m, _, e⟩
      exact wat_Pth (by simpa using e)
    · intro h
      obtain ⟨m, hm⟩ := h.wat hnd
      refine ⟨m, ?_, by simp [hm]⟩
      rw [List.mem_range]
      have := wat_rank hg hlen hm
      by_cases e : m = 0
      · omega
      · have := this.2 e; omega
  rw [Bool.eq_iff_iff, key]
  by_cases e : v = x
  · rw [if_pos e, e]
    exact ⟨fun _ => .refl x, fun _ => rfl⟩
  · rw [if_neg e]
    unfold upsR
    rw [rB_iff]
    constructor
    · rintro ⟨s, hs, hp⟩
      exact (Pth.step (mem_tgs.1 hs) hp).turn2
    · intro h
      have h2 := h.turn
      cases h2 with
      | refl => exact absurd rfl e
      | step e2 h3 => exact ⟨_, mem_tgs.2 e2, h3⟩
def sumSp (q : List Sp) (f : Nat → Bool) (k : Nat) : Sp := (sumF (fun v => if f v = true then q[v]!.1 else 0) k, sumF (fun v => if f v = true then q[v]!.2 else 0) k)
variable {C : CC} (hC : Closed prog C)
include hC
end Go.Gv

set_option linter.unusedSimpArgs false
namespace Go.Gv
theorem upB_Pth {n : Nat} {es : List Edg} (hg : inG n es) (ht : treeF n es = true) {v x : Nat} (hv : v < n) : upB n es v x = true ↔ Pth es v x := by
  simp only [treeF, Bool.and_eq_true, decide_eq_true_eq] at ht
  obtain ⟨hnd, hlen⟩ := ht
  unfold upB
  rw [List.any_eq_true]
  constructor
  · rintro ⟨m, _, e⟩
    exact wat_Pth (by simpa using e)
  · intro h
    obtain ⟨m, hm⟩ := h.wat hnd
    refine ⟨m, ?_, by simp [hm]⟩
    rw [List.mem_range]
    have := wat_rank hg hlen hm
    by_cases e : m = 0
    · omega
    · have := this.2 e; omega
def mnP (P : Nat → Bool) (cf : Nat → Int) (m0 : Int) : Nat → Int
  | 0 => m0
  | i + 1 => if P i = true ∧ cf i < mnP P cf m0 i then cf i else mnP P cf m0 i
theorem mnP_spec (P : Nat → Bool) (cf : Nat → Int) (m0 : Int) : ∀ K, mnP P cf m0 K ≤ m0 ∧ (∀ i, i < K → P i = true → mnP P cf m0 K ≤ cf i) ∧ (mnP P cf m0 K = m0 ∨ ∃ i, i < K ∧ P i = true ∧ mnP P cf m0 K = cf i)
  | 0 => ⟨Int.le_refl _, fun i h => absurd h (Nat.not_lt_zero _), .inl rfl⟩
  | K + 1 => by
    obtain ⟨h1, h2, h3⟩ := mnP_spec P cf m0 K
    unfold mnP
    by_cases c : P K = true ∧ cf K < mnP P cf m0 K
    · rw [if_pos c]
      refine ⟨by omega, fun i hi hp => ?_, .inr ⟨K, by omega, c.1, rfl⟩⟩
      by_cases e : i = K
      · subst e; exact Int.le_refl _
      · have := h2 i (by omega) hp; omega
    · rw [if_neg c]
      refine ⟨h1, fun i hi hp => ?_, ?_⟩
      · by_cases e : i = K
        · subst e
          have : ¬ cf i < mnP P cf m0 i := fun h => c ⟨hp, h⟩
          omega
        · exact h2 i (by omega) hp
      · rcases h3 with h3 | ⟨i, a, b, d⟩
        · exact .inl h3
        · exact .inr ⟨i, by omega, b, d⟩
theorem mnP_uniq {P Q : Nat → Bool} {cf : Nat → Int} {m0 m1 : Int} {K : Nat} (h1 : mnP P cf m0 K ≤ m1) (h2 : ∀ i, i < K → Q i = true → mnP P cf m0 K ≤ cf i) (h3 : mnP P cf m0 K = m1 ∨ ∃ i, i < K ∧ Q i = true ∧ mnP P cf m0 K = cf i) : mnP P cf m0 K = mnP Q cf m1 K := by
  obtain ⟨a, b, c⟩ := mnP_spec Q cf m1 K
  apply Int.le_antisymm
  · rcases c with c | ⟨i, hi, hq, c⟩
    · rw [c]; exact h1
    · rw [c]; exact h2 i hi hq
  · rcases h3 with c | ⟨i, hi, hq, c⟩
    · rw [c]; exact a
    · rw [c]; exact b i hi hq
def msA (n : Nat) (es : List Edg) (cf : Nat → Int) (x : Nat) (l : Int) : Int := mnP (fun i => upB n es x es[i]!.1) cf l es.length
theorem msA_step {n : Nat} {es : List Edg} (hg : inG n es) (ht : treeF n es = true) (cf : Nat → Int) {x i0 : Nat} (hx : x < n) (h0 : i0 < es.length) (e0 : es[i0].1 = x) (l : Int) : msA n es cf x l = msA n es cf es[i0].2 (if l ≤ cf i0 then l else cf i0) := by
  have ht2 := ht
  simp only [treeF, Bool.and_eq_true, decide_eq_true_eq] at ht2
  obtain ⟨hnd, _⟩ := ht2
  have hm0 : es[i0] ∈ es := List.getElem_mem h0
  have hy := (hg _ hm0).2
  have hxy : (x, es[i0].2) ∈ es := by rw [← e0]; exact hm0
  have key : ∀ i, i < es.length → (upB n es x es[i]!.1 = true ↔ (i = i0 ∨ upB n es es[i0].2 es[i]!.1 = true)) := fun i hi => by
    rw [getElem!_pos es i hi, upB_Pth hg ht hx, upB_Pth hg ht hy]
    constructor
    · intro h
      generalize hs : es[i].1 = s at h
      cases h with
      | refl => exact .inl (src_uniq hnd hi h0 (by rw [hs, e0]))
      | step e h2 =>
        have := stp_of hnd e
        rw [stp_of hnd hxy] at this
        cases this
        exact .inr h2
    · rintro (rfl | h)
      · rw [e0]; exact .refl x
      · exact .step hxy h
  obtain ⟨a, b, c⟩ := mnP_spec (fun i => upB n es x es[i]!.1) cf l es.length
  refine mnP_uniq ?_ (fun i hi hq => b i hi ((key i hi).2 (.inr hq))) ?_
  · have := b i0 h0 ((key i0 h0).2 (.inl rfl))
    split <;> omega
  · rcases c with c | ⟨i, hi, hp, c⟩
    · left
      have := b i0 h0 ((key i0 h0).2 (.inl rfl))
      rw [if_pos (by omega)]; exact c
    · rcases (key i hi).1 hp with e | e
      · subst e
        left
        rw [c]
        split <;> omega
      · exact .inr ⟨i, hi, e, c⟩
theorem msA_end {n : Nat} {es : List Edg} (hg : inG n es) (ht : treeF n es = true) (cf : Nat → Int) {x : Nat} (hx : x < n) (h0 : ∀ (i : Nat) (h : i < es.length), es[i].1 ≠ x) (l : Int) : msA n es cf x l = l := by
  obtain ⟨a, b, c⟩ := mnP_spec (fun i => upB n es x es[i]!.1) cf l es.length
  rcases c with c | ⟨i, hi, hp, c⟩
  · exact c
  · exfalso
    simp only [getElem!_pos es i hi, upB_Pth hg ht hx] at hp
    generalize hs : es[i].1 = s at hp
    cases hp with
    | refl => exact h0 i hi hs
    | step e h2 =>
      obtain ⟨j, hj, ej⟩ := List.getElem_of_mem e
      exact h0 j hj (by rw [ej])
def cfL (ss : List Sec) (ls : List Lnk) (i : Nat) : Int := (ls[i]?.map (fulF ss)).getD 0
theorem cfL_get {ss : List Sec} {ls : List Lnk} {i : Nat} (h : i < ls.length) : cfL ss ls i = fulF ss ls[i] := by simp [cfL, h]
def MstE (ns : List Nod) (ls : List Lnk) (ss : List Sec) (nm : List UInt8) : Int := if treeN ns ls && catValid ss then (if pipE ls ss = 0 then (if 0 ≤ idxD (nodIs nm) ns then 0 else 9) else pipE ls ss) else 1
def MstV (ns : List Nod) (ls : List Lnk) (ss : List Sec) (nm : List UInt8) : Int := if MstE ns ls ss nm = 0 then msA ns.length (edgN ns ls) (cfL ss ls) (idxD (nodIs nm) ns).toNat 1099511627776 else 0
end Go.Gv

set_option linter.unusedSimpArgs false
namespace Go.Gv
theorem mem_nmT {ns : List Nod} {f : Nat → Bool} {s : List UInt8} : ∀ {K : Nat}, s ∈ nmT ns f K ↔ ∃ k, k < K ∧ f k = true ∧ nodNm ns k = s
  | 0 => by simp [nmT]
  | K + 1 => by
    unfold nmT
    rw [List.mem_append, mem_nmT (K := K)]
    constructor
    · rintro (⟨k, h1, h2, h3⟩ | h)
      · exact ⟨k, by omega, h2, h3⟩
      · split at h
        · rename_i c
          simp at h
          exact ⟨K, by omega, c, h.symm⟩
        · cases h
    · rintro ⟨k, h1, h2, h3⟩
      by_cases e : k = K
      · subst e
        right
        rw [if_pos h2]
        simp [h3]
      · exact .inl ⟨k, by omega, h2, h3⟩
theorem nod_inj {ns : List Nod} {ls : List Lnk} (hv : netOk ns ls = true) {i j : Nat} (hi : i < ns.length) (hj : j < ns.length) (e : ns[i].name = ns[j].name) : i = j := by
  have h1 := (netOk_nod hv hi).2
  have h2 := (netOk_nod hv hj).2
  rw [e, h2] at h1
  omega
theorem nod_at {ns : List Nod} {nm : List UInt8} {x : Nat} (h : idxD (nodIs nm) ns = x) : ∃ hx : x < ns.length, ns[x].name = nm := by
  have hx := idxD_lt (show 0 ≤ idxD (nodIs nm) ns by omega)
  rw [h] at hx
  simp at hx
  refine ⟨hx, ?_⟩
  unfold idxD at h
  cases e : ns.findIdx? (nodIs nm) with
  | none => rw [e] at h; simp at h
  | some i =>
    rw [e] at h
    simp at h
    have : i = x := by omega
    subst this
    obtain ⟨h1, h2, _⟩ := List.findIdx?_eq_some_iff_getElem.1 e
    simpa [nodIs] using h2
noncomputable def shrF (ns : List Nod) (ls : List Lnk) (q : List Sp) (x v : Nat) : Bool := upX ns ls x v && decide (0 < q[v]!.2)
def ShrE (ns : List Nod) (ls : List Lnk) (q : List Sp) (nm : List UInt8) : Int := if treeN ns ls = true then (if spsE q ns.length = 0 then (if 0 ≤ idxD (lnkIs nm) ls then 0 else 9) else spsE q ns.length) else 1
noncomputable def ShrV (ns : List Nod) (ls : List Lnk) (q : List Sp) (nm : List UInt8) : D := if ShrE ns ls q nm = 0 then .sl (strR (nmT ns (shrF ns ls q ((edgN ns ls)[(idxD (lnkIs nm) ls).toNat]!).1) ns.length)) else .nils
variable {C : CC} (hC : Closed prog C)
include hC
theorem Link_c (b1 b2 : Bool) (ns : List Nod) (ls : List Lnk) (nm : List UInt8) (hcv : ∀ l ∈ ls, l.curve.length < 2 ^ 62) (hv : netOk ns ls = true) : C 463 [.agg [slx b1 (ns.map nodC), slx b2 (ls.map lnkC)], .str nm] (.tup [.int .i64 (if idxD (lnkIs nm) ls < 0 then 0 else idxD (lnkIs nm) ls), .int .i64 (if idxD (lnkIs nm) ls < 0 then 9 else 0)]) [] := by
  have k0 := netOk_c hC b1 b2 ns ls hcv
  rw [hv] at k0
  have k1 := link_c hC b1 b2 ns ls nm (by have := (netOk_len hv).2; omega)
  have k2 := found_c hC [slx b1 (ns.map nodC), slx b2 (ls.map lnkC)] (idxD (lnkIs nm) ls)
  refine start hC (nf := N463_network_Link) rfl rfl ?_
  simp [N463_network_Link]
  refine callW_of k0 (.inl rfl) ?_
  simp
  refine callW_of k1 (.inl rfl) ?_
  simp
  refine callW_of k2 (.inl rfl) ?_
  simp
  exact indW_of (by decide +kernel)
end Go.Gv

set_option linter.unusedSimpArgs false
namespace Go.Gv
theorem idxD_prop {α : Type} {p : α → Bool} {xs : List α} {i : Nat} (h : idxD p xs = i) : ∃ hi : i < xs.length, p xs[i] = true := by
  have hi := idxD_lt (show 0 ≤ idxD p xs by omega)
  rw [h] at hi
  simp at hi
  refine ⟨hi, ?_⟩
  unfold idxD at h
  cases e : xs.findIdx? p with
  | none => rw [e] at h; simp at h
  | some k =>
    rw [e] at h
    simp at h
    have : k = i := by omega
    subst this
    obtain ⟨h1, h2, _⟩ := List.findIdx?_eq_some_iff_getElem.1 e
    exact h2
variable {C : CC} (hC : Closed prog C)
include hC
theorem Node_c (b1 b2 : Bool) (ns : List Nod) (ls : List Lnk) (nm : List UInt8) (hcv : ∀ l ∈ ls, l.curve.length < 2 ^ 62) (hv : netOk ns ls = true) : C 482 [.agg [slx b1 (ns.map nodC), slx b2 (ls.map lnkC)], .str nm] (.tup [.int .i64 (if idxD (nodIs nm) ns < 0 then 0 else idxD (nodIs nm) ns), .int .i64 (if idxD (nodIs nm) ns < 0 then 9 else 0)]) [] := by
  have k0 := netOk_c hC b1 b2 ns ls hcv
  rw [hv] at k0
  have k1 := node_c hC b1 b2 ns ls nm (by have := (netOk_len hv).1; omega)
  have k2 := found_c hC [slx b1 (ns.map nodC), slx b2 (ls.map lnkC)] (idxD (nodIs nm) ns)
  refine start hC (nf := N482_network_Node) rfl rfl ?_
  simp [N482_network_Node]
  refine callW_of k0 (.inl rfl) ?_
  simp
  refine callW_of k1 (.inl rfl) ?_
  simp
  refine callW_of k2 (.inl rfl) ?_
  simp
  exact indW_of (by decide +kernel)
def srcIs (nm : List UInt8) (l : Lnk) : Bool := l.src == nm
theorem srcIs_c (nm : List UInt8) (l : Lnk) : C 483 [.agg (lnkC l), .ptr [.str nm]] (.bool (srcIs nm l)) [] := by
  refine start hC (nf := N483_steady_Most_1) rfl rfl ?_
  simp [N483_steady_Most_1, lnkC, srcIs]
  rw [Bool.eq_iff_iff]; simp
set_option maxHeartbeats 4000000 in
theorem Most_c (hS : SlC C) (b1 b2 b : Bool) (ns : List Nod) (ls : List Lnk) (ss : List Sec) (nm : List UInt8) (hls : ls.length < 2 ^ 62) (hcv : ∀ l ∈ ls, l.curve.length < 2 ^ 62) : C 443 [.agg [slx b1 (ns.map nodC), slx b2 (ls.map lnkC)], slx b (ss.map secC), .str nm] (.tup [.int .i64 (MstV ns ls ss nm), .int .i64 (MstE ns ls ss nm)]) [] := by
  have k1 := sTree_c hC hS b1 b2 ns ls hls hcv
  have k2 := catValid_c hC b ss
  refine start hC (nf := N443_steady_Most) rfl rfl ?_
  simp [N443_steady_Most]
  refine callW_of k1 (.inl rfl) ?_
  unfold MstV MstE
  cases ht : treeN ns ls
  · simp
  simp
  refine callW_of k2 (.inl rfl) ?_
  cases hv : catValid ss
  · simp
  simp
  have k3 := sections_c hC b1 b2 b ns ls ss hls hv
  refine callW_of k3 (.inl rfl) ?_
  by_cases hp : pipE ls ss = 0
  rotate_left
  · simp [hp]
  have ht2 := ht
  simp only [treeN, Bool.and_eq_true] at ht2
  obtain ⟨⟨hnv, _⟩, htf⟩ := ht2
  have hg := edgN_in hnv
  have hel := edgN_len ns ls
  obtain ⟨l1, l2⟩ := netOk_len hnv
  have k4 := Node_c hC b1 b2 ns ls nm hcv hnv
  have hpip := pipE_ok ht hp
  simp [hp]
  refine callW_of k4 (.inl rfl) ?_
  by_cases hx0 : 0 ≤ idxD (nodIs nm) ns
  rotate_left
  · simp [hx0, show idxD (nodIs nm) ns < 0 by omega, hp]
  obtain ⟨x, hx⟩ : ∃ x : Nat, idxD (nodIs nm) ns = x := ⟨(idxD (nodIs nm) ns).toNat, by omega⟩
  rw [hx]
  simp [show ¬ (x : Int) < 0 by omega, hp]
  refine loop_of (Nat × Int × List UInt8) (fun s => [(1, slx b (ss.map secC)), (3, .ptr [slx b1 (ns.map nodC), slx b2 (ls.map lnkC)]), (5, .adr (.r 10080) 0 0), (10080, .blk 1 [[.str s.2.2]]), (11, .int .i64 s.2.1)])
    (fun s => idxD (nodIs s.2.2) ns = s.1 ∧ msA ns.length (edgN ns ls) (cfL ss ls) s.1 s.2.1 = msA ns.length (edgN ns ls) (cfL ss ls) x 1099511627776 ∧ 0 ≤ s.2.1 ∧ s.2.1 ≤ 1099511627776)
    (fun s => ns.length - (ordF ns.length (edgN ns ls)).idxOf s.1) (x, 1099511627776, nm) ⟨hx, rfl, by simp, by simp⟩ (by simp) ?_
  clear hx k4
  rintro ⟨y, least, nn⟩ ⟨i1, i2, i3, i4⟩
  simp only at i1 i2 i3 i4
  obtain ⟨hy, hyn⟩ := nod_at i1
  have k5 := idxLnk_c hC (b := b2) (xs := ls) (g := 483) (cs := [.ptr [.str nn]]) (srcIs nn) hls (fun l _ => srcIs_c hC nn l)
  simp
  refine callW_of k5 (.inl rfl) ?_
  have hse : ∀ (i : Nat) (h : i < ls.length), ((edgN ns ls)[i]'(by rw [hel]; exact h)).1 = y ↔ ls[i].src = nn := fun i h => by
    have e1 := edgN_src hC hnv h
    constructor
    · intro e
      rw [e] at e1
      obtain ⟨_, h2⟩ := nod_at e1
      rw [← h2, hyn]
    · intro e
      rw [e, i1] at e1
      omega
  by_cases hi0 : idxD (srcIs nn) ls < 0
  · have hany : ls.any (srcIs nn) = false := by
      rw [← idxD_any]; simp; omega
    have hend := msA_end hg htf (cfL ss ls) hy (fun i h e => by
      have h' : i < ls.length := by rw [← hel]; exact h
      have := (hse i h').1 e
      rw [List.any_eq_false] at hany
      exact hany _ (List.getElem_mem h') (by simp [srcIs, this])) least
    rw [← i2, hend]
    simp [hi0, hp]
  · obtain ⟨i, hi⟩ : ∃ i : Nat, idxD (srcIs nn) ls = i := ⟨(idxD (srcIs nn) ls).toNat, by omega⟩
    rw [hi]
    obtain ⟨hil, hpi⟩ := idxD_prop hi
    have hie : i < (edgN ns ls).length := by rw [hel]; exact hil
    have hsrc : (edgN ns ls)[i].1 = y := (hse i hil).2 (by simpa [srcIs] using hpi)
    have hstep := msA_step hg htf (cfL ss ls) hy hie hsrc least
    rw [cfL_get hil] at hstep
    have hrank := ord_rank hg (by simp only [treeF, Bool.and_eq_true, decide_eq_true_eq] at htf; exact htf.2) (u := (edgN ns ls)[i].1) (v := (edgN ns ls)[i].2) (List.getElem_mem hie)
    rw [hsrc] at hrank
    have hdst : idxD (nodIs ls[i].dst) ns = ((edgN ns ls)[i].2 : Nat) := by
      obtain ⟨_, _, g1, g2⟩ := netOk_lnk hnv hil
      simp only [edgN, List.getElem_map]
      omega
    have hpo := hpip _ (List.getElem_mem hil)
    have k6 := full_c hC b ss ls[i] hv hpo
    obtain ⟨c, hc, hce⟩ := fulF_rng hv hpo
    rw [hce] at hstep k6
    simp only [lnkC] at k6
    simp [show ¬ (i : Int) < 0 by omega, hil, lnkC]
    refine callW_of k6 (.inl rfl) ?_
    simp [hil, lnkC]
    have e1 : (if (c : Int) < least then (c : Int) else least) = if least ≤ (c : Int) then least else (c : Int) := by split <;> split <;> omega
    refine ⟨(edgN ns ls)[i].2, _, _, ⟨hdst, ?_, ?_, ?_⟩, by omega, rfl, rfl⟩
    · rw [e1, ← hstep]; exact i2
    · split <;> omega
    · split <;> omega
end Go.Gv

set_option linter.unusedSimpArgs false
namespace Go.Gv
variable {C : CC} (hC : Closed prog C)
include hC
end Go.Gv

set_option linter.unusedSimpArgs false
namespace Go.Gv
variable {C : CC} (hC : Closed prog C)
include hC
omit hC in
theorem strR_F (l : List (List UInt8)) : ∀ r ∈ strR l, ∀ c ∈ r, isF1 c = true := fun r hr c hc => by
  obtain ⟨v, _, rfl⟩ := List.mem_map.1 hr
  simp at hc; subst hc; rfl
set_option maxHeartbeats 2000000 in
theorem OverloadedG_c (hS : SlC C) (b1 b2 b b' : Bool) (ns : List Nod) (ls : List Lnk) (ss : List Sec) (q : List Sp) (hls : ls.length < 2 ^ 62) (hq : q.length < 2 ^ 62) (hcv : ∀ l ∈ ls, l.curve.length < 2 ^ 62) : C 442 [.agg [slx b1 (ns.map nodC), slx b2 (ls.map lnkC)], slx b (ss.map secC), slx b' (q.map knD)] (.tup [OvV (·.1) ns ls ss q, OvV (·.2) ns ls ss q, .int .i64 (OvE ns ls ss q)]) [.nilp] := by
  have k0 := pipes_c hC hS b1 b2 b b' ns ls ss q ns.length hls hq hcv
  refine startG hC (nf := N442_steady_Overloaded) rfl rfl ?_
  simp [N442_steady_Overloaded]
  refine callW_of k0 (.inl rfl) ?_
  unfold OvV OvE
  by_cases hg : givE ns ls ss q ns.length = 0
  rotate_left
  · simp [hg]
  obtain ⟨ht, hv, hsp, hpe⟩ := givE_ok hg
  have hpip := pipE_ok ht hpe
  have hql := (spsE_get hsp).1
  have hl4 : ls.length ≤ 400 := by
    simp only [treeN, Bool.and_eq_true] at ht
    exact (netOk_len ht.1.1).2
  have k1 := sFlows_c hC hS b1 b2 b' ns ls q hcv ht hql
  have hfl : (flowsF ns.length (edgN ns ls) q).length = ls.length := by simp [flowsF, edgN_len]
  unfold flowsV flowsE at k1
  unfold flowsE
  simp [hg]
  refine callW_of k1 (.inr rfl) ?_
  generalize flowsF ns.length (edgN ns ls) q = fl at *
  cases hb : bigF fl
  rotate_left
  · simp [hg]
  simp [hg]
  refine loop_of Nat (fun i => [(1, slx b (ss.map secC)), (10, .sl (fl.map knD)), (12, .ref (.r 10192) 0 (ovT ss (·.1) ls fl i).length), (10192, .blk 1 (strR (ovT ss (·.1) ls fl i))), (13, .ref (.r 10208) 0 (ovT ss (·.2) ls fl i).length), (10208, .blk 1 (strR (ovT ss (·.2) ls fl i))), (38, slx b2 (ls.map lnkC)), (39, .int .i64 ls.length), (40, .int .i64 i)]) (fun i => i ≤ ls.length) (fun i => ls.length - i) 0 (by simp) (by simp [ovT, strR]) ?_
  rintro i hi
  simp
  refine brB_of (fun h => ?_) (fun h => ?_) <;> simp [h] <;> simp at h
  · have hw : IntKind.wrap .i64 ((i : Int) + 1) = ((i + 1 : Nat) : Int) := wrap_i64 (by omega) (by omega)
    have hif : i < fl.length := by omega
    have hp := hpip _ (List.getElem_mem h)
    have k2 := full_c hC b ss ls[i] hv hp
    have s1 := ovT_succ (ss := ss) (f := (·.1)) h hif
    have s2 := ovT_succ (ss := ss) (f := (·.2)) h hif
    have n1 := ovT_len ss (·.1) ls fl i
    have n2 := ovT_len ss (·.2) ls fl i
    simp only [lnkC] at k2
    simp [h, lnkC]
    refine callW_of k2 (.inl rfl) ?_
    simp [hif, knD]
    generalize fulF ss ls[i] = c at *
    generalize hT1 : ovT ss (·.1) ls fl i = T1 at *
    generalize hT2 : ovT ss (·.2) ls fl i = T2 at *
    have t1 : (strR T1).take T1.length = strR T1 := List.take_of_length_le (by rw [strR_len]; exact Nat.le_refl _)
    have t2 : (strR T2).take T2.length = strR T2 := List.take_of_length_le (by rw [strR_len]; exact Nat.le_refl _)
    refine brB_of (fun a => ?_) (fun a => ?_) <;> simp at a <;> simp [a, hif, knD]
    · refine ⟨by simp [strR_len], by omega, ?_⟩
      refine brB_of (fun g => ?_) (fun g => ?_) <;> simp at g <;> simp [g, hif, knD]
      · refine ⟨by simp [strR_len], by omega, ?_⟩
        simp [hw]
        refine ⟨i + 1, by omega, by omega, ?_⟩
        rw [s1, s2, if_pos a, if_pos g, t1, t2, strR_app, strR_app]
        simp
      · simp [hw]
        refine ⟨i + 1, by omega, by omega, ?_⟩
        rw [s1, s2, if_pos a, if_neg (by omega), t1, strR_app]
        simp
    · refine brB_of (fun g => ?_) (fun g => ?_) <;> simp at g <;> simp [g, hif, knD]
      · refine ⟨by simp [strR_len], by omega, ?_⟩
        simp [hw]
        refine ⟨i + 1, by omega, by omega, ?_⟩
        rw [s1, s2, if_neg (by omega), if_pos g, t2, strR_app]
        simp
      · simp [hw]
        refine ⟨i + 1, by omega, by omega, ?_⟩
        rw [s1, s2, if_neg (by omega), if_neg (by omega)]
        simp
  · have ek : i = ls.length := by omega
    subst ek
    have hgi : ¬ givE ns ls ss q ns.length = 0 → givE ns ls ss q ns.length = 0 := fun _ => hg
    rw [if_pos hgi, if_pos hgi, strR_V, strR_V, List.take_of_length_le (by rw [strR_len]; exact Nat.le_refl _), List.take_of_length_le (by rw [strR_len]; exact Nat.le_refl _)]
    have f1 := strR_F (ovT ss (fun x => x.fst) ls fl ls.length)
    have f2 := strR_F (ovT ss (fun x => x.snd) ls fl ls.length)
    simp only [strR_len]
    exact ⟨⟨⟨Nat.le_refl _, Nat.le_refl _⟩, trivial, trivial, hgi⟩, f1, f2⟩
set_option maxHeartbeats 4000000 in
theorem ShareG_c (hS : SlC C) (b1 b2 b : Bool) (ns : List Nod) (ls : List Lnk) (q : List Sp) (nm : List UInt8) (hq : q.length < 2 ^ 62) (hl : ls.length < 2 ^ 62) (hcv : ∀ l ∈ ls, l.curve.length < 2 ^ 62) : C 430 [.agg [slx b1 (ns.map nodC), slx b2 (ls.map lnkC)], slx b (q.map knD), .str nm] (.tup [ShrV ns ls q nm, .int .i64 (ShrE ns ls q nm)]) [.nilp] := by
  have k1 := sTree_c hC hS b1 b2 ns ls hl hcv
  have k2 := spans_c hC b q ns.length hq
  refine startG hC (nf := N430_steady_Share) rfl rfl ?_
  simp [N430_steady_Share]
  refine callW_of k1 (.inl rfl) ?_
  unfold ShrV ShrE
  cases ht : treeN ns ls
  · simp
  simp
  refine callW_of k2 (.inl rfl) ?_
  by_cases h0 : spsE q ns.length = 0
  rotate_left
  · simp [h0]
  obtain ⟨hql, hqr⟩ := spsE_get h0
  have hv : netOk ns ls = true := by simp only [treeN, Bool.and_eq_true] at ht; exact ht.1.1
  obtain ⟨l1, l2⟩ := netOk_len hv
  have k3 := Link_c hC b1 b2 ns ls nm hcv hv
  simp [h0]
  refine callW_of k3 (.inl rfl) ?_
  by_cases hk : 0 ≤ idxD (lnkIs nm) ls
  rotate_left
  · simp [hk, show idxD (lnkIs nm) ls < 0 by omega, h0]
  have hkl := idxD_lt hk
  obtain ⟨k, hke⟩ : ∃ k : Nat, idxD (lnkIs nm) ls = k := ⟨(idxD (lnkIs nm) ls).toNat, by omega⟩
  rw [hke] at hkl ⊢
  simp at hkl
  have hkk : k < (edgN ns ls).length := by rw [edgN_len]; exact hkl
  have e0 : ((edgN ns ls)[(k : Int).toNat]!).1 = ((edgN ns ls)[k]'hkk).1 := by rw [Int.toNat_natCast, getElem!_pos _ k hkk]
  have hsrc := edgN_src hC hv hkl
  rw [e0]
  have k4 := Above_c hC hS b1 b2 ns ls ls[k].src hcv hv
  generalize hxx : ((edgN ns ls)[k]'hkk).1 = x at *
  unfold waysV waysE waysL at k4
  rw [hsrc] at k4
  have hx0 : (0 : Int) ≤ x := by omega
  simp only [hx0, if_true, Int.toNat_natCast] at k4
  obtain ⟨hx, hnx⟩ := nod_at hsrc
  have hcon : ∀ (v : Nat) (h : v < ns.length), (decide (ns[v].name = ls[k].src) || (nmT ns (rB (trn (edgN ns ls)) (tgs (trn (edgN ns ls)) x)) ns.length).contains ns[v].name) = upX ns ls x v := fun v h => by
    rw [Bool.eq_iff_iff]
    unfold upX upsR
    by_cases e : v = x
    · subst e
      simp [hnx]
    · rw [if_neg e]
      have hne : ¬ ns[v].name = ls[k].src := fun e2 => e (nod_inj hv h hx (by rw [e2, hnx]))
      simp only [hne, decide_false, Bool.false_or, List.contains_iff_mem, mem_nmT]
      constructor
      · rintro ⟨u, h1, h2, h3⟩
        rw [nodNm_get h1] at h3
        have := nod_inj hv h1 h h3
        rw [← this]; exact h2
      · intro h2
        exact ⟨v, h, h2, nodNm_get h⟩
  have hal := nmT_len ns (rB (trn (edgN ns ls)) (tgs (trn (edgN ns ls)) x)) ns.length
  generalize nmT ns (rB (trn (edgN ns ls)) (tgs (trn (edgN ns ls)) x)) ns.length = ab at *
  have k5 := fun s => hasStr_c hC false ab s (by omega)
  simp only [slx_false] at k5
  simp [h0, show ¬ (k : Int) < 0 by omega, hkl, lnkC]
  refine callW_of k4 (.inr rfl) ?_
  simp
  refine loop_of Nat (fun j => [(1, slx b (q.map knD)), (11, .str ls[k].src), (12, .sl (strR ab)), (13, .ref (.r 10208) 0 (nmT ns (shrF ns ls q x) j).length), (10208, .blk 1 (strR (nmT ns (shrF ns ls q x) j))), (52, slx b1 (ns.map nodC)), (53, .int .i64 ns.length), (54, .int .i64 j)]) (fun j => j ≤ ns.length) (fun j => ns.length - j) 0 (by simp) (by simp [nmT, strR]) ?_
  rintro j hj
  simp
  refine brB_of (fun h => ?_) (fun h => ?_) <;> simp [h] <;> simp at h
  · have hw : IntKind.wrap .i64 ((j : Int) + 1) = ((j + 1 : Nat) : Int) := wrap_i64 (by omega) (by omega)
    have hjq : j < q.length := by omega
    have ht' : nmT ns (shrF ns ls q x) (j + 1) = nmT ns (shrF ns ls q x) j ++ (if shrF ns ls q x j = true then [nodNm ns j] else []) := rfl
    rw [nodNm_get h] at ht'
    have hsj : shrF ns ls q x j = (upX ns ls x j && decide (0 < q[j].2)) := by unfold shrF; rw [bang hjq]
    have hcj := hcon j h
    have hl1 := nmT_len ns (shrF ns ls q x) j
    generalize nmT ns (shrF ns ls q x) j = T at *
    have hT : (strR T).take T.length = strR T := List.take_of_length_le (by rw [strR_len]; exact Nat.le_refl _)
    rw [← hcj] at hsj
    have app : shrF ns ls q x j = true → nmT ns (shrF ns ls q x) (j + 1) = T ++ [ns[j].name] := fun e => by rw [ht', if_pos e]
    have noapp : shrF ns ls q x j = false → nmT ns (shrF ns ls q x) (j + 1) = T := fun e => by rw [ht', e]; simp
    simp [h, hjq, nodC, knD]
    by_cases c1 : 0 < q[j].2
    · by_cases c2 : ns[j].name = ls[k].src
      · have e1 := app (by rw [hsj]; simp [c1, c2])
        simp [c1, c2, h, nodC]
        refine ⟨by rw [strR_len]; exact Nat.le_refl _, by omega, ?_⟩
        simp [hw]
        refine ⟨j + 1, by omega, by omega, ?_⟩
        rw [e1, hT, ← c2]
        simp [strR]
      · simp [c1, c2, h, nodC]
        refine callW_of (k5 _) (.inl rfl) ?_
        cases c3 : ab.contains ns[j].name
        · have e1 := noapp (by rw [hsj, c3]; simp [c2])
          simp [hw]
          exact ⟨j + 1, by omega, by omega, by rw [e1]; simp⟩
        · have e1 := app (by rw [hsj, c3]; simp [c1])
          simp [h, nodC]
          refine ⟨by rw [strR_len]; exact Nat.le_refl _, by omega, ?_⟩
          simp [hw]
          refine ⟨j + 1, by omega, by omega, ?_⟩
          rw [e1, hT]
          simp [strR]
    · have e1 := noapp (by rw [hsj]; simp [c1])
      simp [c1, hw]
      exact ⟨j + 1, by omega, by omega, by rw [e1]; simp⟩
  · have ej : j = ns.length := by omega
    subst ej
    rw [strR_V, List.take_of_length_le (by rw [strR_len]; exact Nat.le_refl _)]
    simp [h0]
    have f1 := strR_F (nmT ns (shrF ns ls q x) ns.length)
    rw [strR_len]
    exact ⟨Nat.le_refl _, f1⟩
end Go.Gv
