/-
  Texts of the proof: I4, H13, H14, H15, I5, I6.
-/
import Derived.Test.YteemogpcmjekhaaDoorX6
set_option linter.all false
set_option linter.unusedSimpArgs false
namespace Go.Gv
/-- Whether a border is among the first k sides. -/
def bdB (m : Msh) (i k : Nat) : Bool := (List.range k).any fun c => decide (nbF m i c < 0)
theorem bdB_succ (m : Msh) (i k : Nat) : bdB m i (k + 1) = (bdB m i k || decide (nbF m i k < 0)) := by simp [bdB, List.range_succ]
theorem bdB_3 (m : Msh) (i : Nat) : bdB m i 3 = bsd m i (-1) := by
  have h3 : List.range 3 = [0, 1, 2] := rfl
  have e : ∀ c, decide (nbF m i c < 0) = decide (-1 = nbF m i c) := fun c => by
    have := nbF_bd m i c
    rw [Bool.eq_iff_iff]
    simp
    omega
  simp [bdB, h3, bsd, e]
def ini (m : Msh) (i k : Nat) : Int := if bdB m i k then -1 else -2
/-- What the reference's second loop has found. -/
def qup (m : Msh) (i k : Nat) : Int := if upF m i k < 0 then ini m i 3 else upF m i k
theorem qup_3 (m : Msh) (i : Nat) : qup m i 3 = runF m i := by
  have := upF_bd m i 3
  unfold qup ini runF
  rw [bdB_3]
  cases bsd m i (-1) <;> simp <;> omega
theorem ini_neg (m : Msh) (i k : Nat) : ini m i k < 0 := by unfold ini; split <;> omega
theorem ini_step (m : Msh) (i k : Nat) : ini m i (k + 1) = if nbF m i k < 0 ∧ ini m i k = -2 then -1 else ini m i k := by
  unfold ini
  rw [bdB_succ]
  cases bdB m i k <;> simp
variable {C : CC} (hC : Closed prog C)
include hC
set_option maxRecDepth 8000 in
set_option maxHeartbeats 2000000 in
theorem qRuns_c (m : Msh) (hv : validM m = true) (i : Nat) (hi : i < m.f.length) : C 260 [.agg (mshC m), .sl (nbA m), .int .i64 i] (.int .i64 (runF m i)) [] := by
  have hs := fun j hj => qSum_c hC m hv j hj
  have ks := fun a b ha hb sa sb => qSteeper_c hC m hv i a b hi ha hb sa sb
  simp only [mshC_eq] at hs ks
  refine start hC (nf := N260_ref10_Runs) rfl rfl ?_
  simp [N260_ref10_Runs, mshC_eq]
  have hnb : (nbA m)[i]? = some [.int .i64 (nbF m i 0), .int .i64 (nbF m i 1), .int .i64 (nbF m i 2)] := by simp [nbA, hi]
  refine loop_of Nat (fun k => [(1, .sl (nbA m)), (2, .int .i64 i), (3, .ptr (mshC m)), (7, .int .i64 (ini m i k)), (8, .int .i64 k)]) (fun k => k ≤ 3) (fun k => 3 - k) 0 (by simp) (by simp [mshC_eq, ini, bdB]) ?_
  rintro k hk
  rcases (by omega : k = 0 ∨ k = 1 ∨ k = 2 ∨ k = 3) with rfl | rfl | rfl | rfl
  · have st := ini_step m i 0
    obtain ⟨N, hN⟩ : ∃ N, N = nbF m i 0 := ⟨_, rfl⟩
    obtain ⟨B, hB⟩ : ∃ B, B = ini m i 0 := ⟨_, rfl⟩
    rw [← hN, ← hB] at st
    simp [mshC_eq, w64_1, w64_2, w64_3]
    rw [idxW_some hnb]
    simp [← hN, ← hB]
    by_cases c1 : N < 0
    · by_cases c2 : B = -2
      · rw [if_pos ⟨c1, c2⟩] at st
        simp [c1, c2, w64_1, w64_2, w64_3]
        exact ⟨1, by omega, by omega, by simp [mshC_eq], st.symm, by simp⟩
      · rw [if_neg (by omega)] at st
        simp [c1, c2, w64_1, w64_2, w64_3]
        exact ⟨1, by omega, by omega, by simp [mshC_eq], st.symm, by simp⟩
    · rw [if_neg (by omega)] at st
      simp [c1, w64_1, w64_2, w64_3]
      exact ⟨1, by omega, by omega, by simp [mshC_eq], st.symm, by simp⟩
  · have st := ini_step m i 1
    obtain ⟨N, hN⟩ : ∃ N, N = nbF m i 1 := ⟨_, rfl⟩
    obtain ⟨B, hB⟩ : ∃ B, B = ini m i 1 := ⟨_, rfl⟩
    rw [← hN, ← hB] at st
    simp [mshC_eq, w64_1, w64_2, w64_3]
    rw [idxW_some hnb]
    simp [← hN, ← hB]
    by_cases c1 : N < 0
    · by_cases c2 : B = -2
      · rw [if_pos ⟨c1, c2⟩] at st
        simp [c1, c2, w64_1, w64_2, w64_3]
        exact ⟨2, by omega, by omega, by simp [mshC_eq], st.symm, by simp⟩
      · rw [if_neg (by omega)] at st
        simp [c1, c2, w64_1, w64_2, w64_3]
        exact ⟨2, by omega, by omega, by simp [mshC_eq], st.symm, by simp⟩
    · rw [if_neg (by omega)] at st
      simp [c1, w64_1, w64_2, w64_3]
      exact ⟨2, by omega, by omega, by simp [mshC_eq], st.symm, by simp⟩
  · have st := ini_step m i 2
    obtain ⟨N, hN⟩ : ∃ N, N = nbF m i 2 := ⟨_, rfl⟩
    obtain ⟨B, hB⟩ : ∃ B, B = ini m i 2 := ⟨_, rfl⟩
    rw [← hN, ← hB] at st
    simp [mshC_eq, w64_1, w64_2, w64_3]
    rw [idxW_some hnb]
    simp [← hN, ← hB]
    by_cases c1 : N < 0
    · by_cases c2 : B = -2
      · rw [if_pos ⟨c1, c2⟩] at st
        simp [c1, c2, w64_1, w64_2, w64_3]
        exact ⟨3, by omega, by omega, by simp [mshC_eq], st.symm, by simp⟩
      · rw [if_neg (by omega)] at st
        simp [c1, c2, w64_1, w64_2, w64_3]
        exact ⟨3, by omega, by omega, by simp [mshC_eq], st.symm, by simp⟩
    · rw [if_neg (by omega)] at st
      simp [c1, w64_1, w64_2, w64_3]
      exact ⟨3, by omega, by omega, by simp [mshC_eq], st.symm, by simp⟩
  · simp [mshC_eq]
    refine loop_of Nat (fun k => [(1, .sl (nbA m)), (2, .int .i64 i), (3, .ptr (mshC m)), (7, .int .i64 (qup m i k)), (10, .int .i64 k)]) (fun k => k ≤ 3) (fun k => 3 - k) 0 (by simp) (by simp [mshC_eq, qup, upF]) ?_
    clear hk
    rintro k hk
    rcases (by omega : k = 0 ∨ k = 1 ∨ k = 2 ∨ k = 3) with rfl | rfl | rfl | rfl
    · have step : upF m i 1 = stpF m i (upF m i 0) (nbF m i 0) := rfl
      have nb := nbF_bd m i 0
      have ub := upF_bd m i 0
      have iN := ini_neg m i 3
      have q0 : qup m i 0 = if upF m i 0 < 0 then ini m i 3 else upF m i 0 := rfl
      have q1 : qup m i 1 = if upF m i 1 < 0 then ini m i 3 else upF m i 1 := rfl
      obtain ⟨N, hN⟩ : ∃ N, N = nbF m i 0 := ⟨_, rfl⟩
      obtain ⟨U, hU⟩ : ∃ U, U = upF m i 0 := ⟨_, rfl⟩
      obtain ⟨V, hV⟩ : ∃ V, V = upF m i 1 := ⟨_, rfl⟩
      obtain ⟨B, hB⟩ : ∃ B, B = qup m i 0 := ⟨_, rfl⟩
      rw [← hN, ← hU, ← hV] at step
      rw [← hN] at nb
      rw [← hU] at ub
      rw [← hB, ← hU] at q0
      rw [← hV] at q1
      simp [mshC_eq, w64_1, w64_2, w64_3]
      rw [idxW_some hnb]
      simp [← hN, ← hB]
      by_cases c1 : N < 0
      · rw [stpF, if_pos (.inl c1)] at step
        simp [c1, w64_1, w64_2, w64_3]
        exact ⟨indW_of (by decide +kernel), 1, by omega, by omega, by simp [mshC_eq], by rw [q1, step]; exact q0, by simp⟩
      · have n0 : 0 ≤ N := by omega
        have kN := hs N.toNat (by omega)
        have kI := hs i hi
        rw [Int.toNat_of_nonneg n0] at kN
        simp [c1]
        refine callW_of kN (.inl rfl) ?_
        simp
        refine callW_of kI (.inl rfl) ?_
        simp
        by_cases c2 : sumF m i ≤ sumF m N.toNat
        · rw [stpF, if_pos (.inr c2)] at step
          simp [c2, w64_1, w64_2, w64_3]
          exact ⟨indW_of (by decide +kernel), 1, by omega, by omega, by simp [mshC_eq], by rw [q1, step]; exact q0, by simp⟩
        · rw [stpF, if_neg (by omega)] at step
          simp [c2]
          refine ⟨indW_of (by decide +kernel), ?_⟩
          by_cases c3 : U < 0
          · rw [if_pos c3] at step q0
            have b0 : B < 0 := by omega
            simp [b0, w64_1, w64_2, w64_3]
            exact ⟨1, by omega, by omega, by simp [mshC_eq], by rw [q1, step, if_neg c1], by simp⟩
          · rw [if_neg c3] at step q0
            have b0 : ¬ B < 0 := by omega
            have hc := ks N.toNat U.toNat (by omega) (by omega) (by omega) (by omega)
            rw [Int.toNat_of_nonneg n0, Int.toNat_of_nonneg (by omega), ← q0] at hc
            obtain ⟨c, hcc⟩ : ∃ c, c = cmpF m i N.toNat U.toNat := ⟨_, rfl⟩
            rw [← q0] at hcc step
            rw [← hcc] at hc step
            simp [b0]
            refine callW_of hc (.inl rfl) ?_
            simp
            by_cases c4 : 0 < c
            · rw [if_pos (.inl c4)] at step
              simp [c4, w64_1, w64_2, w64_3]
              exact ⟨1, by omega, by omega, by simp [mshC_eq], by rw [q1, step, if_neg c1], by simp⟩
            · by_cases c5 : c = 0 ∧ N < B
              · rw [if_pos (.inr c5)] at step
                simp [c4, c5.1, c5.2, w64_1, w64_2, w64_3]
                exact ⟨1, by omega, by omega, by simp [mshC_eq], by rw [q1, step, if_neg c1], by simp⟩
              · rw [if_neg (by omega)] at step
                by_cases c6 : c = 0
                · have c7 : ¬ N < B := fun h => c5 ⟨c6, h⟩
                  simp [c6, c7, w64_1, w64_2, w64_3]
                  exact ⟨1, by omega, by omega, by simp [mshC_eq], by rw [q1, step, if_neg b0], by simp⟩
                · simp [c4, c6, w64_1, w64_2, w64_3]
                  exact ⟨1, by omega, by omega, by simp [mshC_eq], by rw [q1, step, if_neg b0], by simp⟩
    · have step : upF m i 2 = stpF m i (upF m i 1) (nbF m i 1) := rfl
      have nb := nbF_bd m i 1
      have ub := upF_bd m i 1
      have iN := ini_neg m i 3
      have q0 : qup m i 1 = if upF m i 1 < 0 then ini m i 3 else upF m i 1 := rfl
      have q1 : qup m i 2 = if upF m i 2 < 0 then ini m i 3 else upF m i 2 := rfl
      obtain ⟨N, hN⟩ : ∃ N, N = nbF m i 1 := ⟨_, rfl⟩
      obtain ⟨U, hU⟩ : ∃ U, U = upF m i 1 := ⟨_, rfl⟩
      obtain ⟨V, hV⟩ : ∃ V, V = upF m i 2 := ⟨_, rfl⟩
      obtain ⟨B, hB⟩ : ∃ B, B = qup m i 1 := ⟨_, rfl⟩
      rw [← hN, ← hU, ← hV] at step
      rw [← hN] at nb
      rw [← hU] at ub
      rw [← hB, ← hU] at q0
      rw [← hV] at q1
      simp [mshC_eq, w64_1, w64_2, w64_3]
      rw [idxW_some hnb]
      simp [← hN, ← hB]
      by_cases c1 : N < 0
      · rw [stpF, if_pos (.inl c1)] at step
        simp [c1, w64_1, w64_2, w64_3]
        exact ⟨indW_of (by decide +kernel), 2, by omega, by omega, by simp [mshC_eq], by rw [q1, step]; exact q0, by simp⟩
      · have n0 : 0 ≤ N := by omega
        have kN := hs N.toNat (by omega)
        have kI := hs i hi
        rw [Int.toNat_of_nonneg n0] at kN
        simp [c1]
        refine callW_of kN (.inl rfl) ?_
        simp
        refine callW_of kI (.inl rfl) ?_
        simp
        by_cases c2 : sumF m i ≤ sumF m N.toNat
        · rw [stpF, if_pos (.inr c2)] at step
          simp [c2, w64_1, w64_2, w64_3]
          exact ⟨indW_of (by decide +kernel), 2, by omega, by omega, by simp [mshC_eq], by rw [q1, step]; exact q0, by simp⟩
        · rw [stpF, if_neg (by omega)] at step
          simp [c2]
          refine ⟨indW_of (by decide +kernel), ?_⟩
          by_cases c3 : U < 0
          · rw [if_pos c3] at step q0
            have b0 : B < 0 := by omega
            simp [b0, w64_1, w64_2, w64_3]
            exact ⟨2, by omega, by omega, by simp [mshC_eq], by rw [q1, step, if_neg c1], by simp⟩
          · rw [if_neg c3] at step q0
            have b0 : ¬ B < 0 := by omega
            have hc := ks N.toNat U.toNat (by omega) (by omega) (by omega) (by omega)
            rw [Int.toNat_of_nonneg n0, Int.toNat_of_nonneg (by omega), ← q0] at hc
            obtain ⟨c, hcc⟩ : ∃ c, c = cmpF m i N.toNat U.toNat := ⟨_, rfl⟩
            rw [← q0] at hcc step
            rw [← hcc] at hc step
            simp [b0]
            refine callW_of hc (.inl rfl) ?_
            simp
            by_cases c4 : 0 < c
            · rw [if_pos (.inl c4)] at step
              simp [c4, w64_1, w64_2, w64_3]
              exact ⟨2, by omega, by omega, by simp [mshC_eq], by rw [q1, step, if_neg c1], by simp⟩
            · by_cases c5 : c = 0 ∧ N < B
              · rw [if_pos (.inr c5)] at step
                simp [c4, c5.1, c5.2, w64_1, w64_2, w64_3]
                exact ⟨2, by omega, by omega, by simp [mshC_eq], by rw [q1, step, if_neg c1], by simp⟩
              · rw [if_neg (by omega)] at step
                by_cases c6 : c = 0
                · have c7 : ¬ N < B := fun h => c5 ⟨c6, h⟩
                  simp [c6, c7, w64_1, w64_2, w64_3]
                  exact ⟨2, by omega, by omega, by simp [mshC_eq], by rw [q1, step, if_neg b0], by simp⟩
                · simp [c4, c6, w64_1, w64_2, w64_3]
                  exact ⟨2, by omega, by omega, by simp [mshC_eq], by rw [q1, step, if_neg b0], by simp⟩
    · have step : upF m i 3 = stpF m i (upF m i 2) (nbF m i 2) := rfl
      have nb := nbF_bd m i 2
      have ub := upF_bd m i 2
      have iN := ini_neg m i 3
      have q0 : qup m i 2 = if upF m i 2 < 0 then ini m i 3 else upF m i 2 := rfl
      have q1 : qup m i 3 = if upF m i 3 < 0 then ini m i 3 else upF m i 3 := rfl
      obtain ⟨N, hN⟩ : ∃ N, N = nbF m i 2 := ⟨_, rfl⟩
      obtain ⟨U, hU⟩ : ∃ U, U = upF m i 2 := ⟨_, rfl⟩
      obtain ⟨V, hV⟩ : ∃ V, V = upF m i 3 := ⟨_, rfl⟩
      obtain ⟨B, hB⟩ : ∃ B, B = qup m i 2 := ⟨_, rfl⟩
      rw [← hN, ← hU, ← hV] at step
      rw [← hN] at nb
      rw [← hU] at ub
      rw [← hB, ← hU] at q0
      rw [← hV] at q1
      simp [mshC_eq, w64_1, w64_2, w64_3]
      rw [idxW_some hnb]
      simp [← hN, ← hB]
      by_cases c1 : N < 0
      · rw [stpF, if_pos (.inl c1)] at step
        simp [c1, w64_1, w64_2, w64_3]
        exact ⟨indW_of (by decide +kernel), 3, by omega, by omega, by simp [mshC_eq], by rw [q1, step]; exact q0, by simp⟩
      · have n0 : 0 ≤ N := by omega
        have kN := hs N.toNat (by omega)
        have kI := hs i hi
        rw [Int.toNat_of_nonneg n0] at kN
        simp [c1]
        refine callW_of kN (.inl rfl) ?_
        simp
        refine callW_of kI (.inl rfl) ?_
        simp
        by_cases c2 : sumF m i ≤ sumF m N.toNat
        · rw [stpF, if_pos (.inr c2)] at step
          simp [c2, w64_1, w64_2, w64_3]
          exact ⟨indW_of (by decide +kernel), 3, by omega, by omega, by simp [mshC_eq], by rw [q1, step]; exact q0, by simp⟩
        · rw [stpF, if_neg (by omega)] at step
          simp [c2]
          refine ⟨indW_of (by decide +kernel), ?_⟩
          by_cases c3 : U < 0
          · rw [if_pos c3] at step q0
            have b0 : B < 0 := by omega
            simp [b0, w64_1, w64_2, w64_3]
            exact ⟨3, by omega, by omega, by simp [mshC_eq], by rw [q1, step, if_neg c1], by simp⟩
          · rw [if_neg c3] at step q0
            have b0 : ¬ B < 0 := by omega
            have hc := ks N.toNat U.toNat (by omega) (by omega) (by omega) (by omega)
            rw [Int.toNat_of_nonneg n0, Int.toNat_of_nonneg (by omega), ← q0] at hc
            obtain ⟨c, hcc⟩ : ∃ c, c = cmpF m i N.toNat U.toNat := ⟨_, rfl⟩
            rw [← q0] at hcc step
            rw [← hcc] at hc step
            simp [b0]
            refine callW_of hc (.inl rfl) ?_
            simp
            by_cases c4 : 0 < c
            · rw [if_pos (.inl c4)] at step
              simp [c4, w64_1, w64_2, w64_3]
              exact ⟨3, by omega, by omega, by simp [mshC_eq], by rw [q1, step, if_neg c1], by simp⟩
            · by_cases c5 : c = 0 ∧ N < B
              · rw [if_pos (.inr c5)] at step
                simp [c4, c5.1, c5.2, w64_1, w64_2, w64_3]
                exact ⟨3, by omega, by omega, by simp [mshC_eq], by rw [q1, step, if_neg c1], by simp⟩
              · rw [if_neg (by omega)] at step
                by_cases c6 : c = 0
                · have c7 : ¬ N < B := fun h => c5 ⟨c6, h⟩
                  simp [c6, c7, w64_1, w64_2, w64_3]
                  exact ⟨3, by omega, by omega, by simp [mshC_eq], by rw [q1, step, if_neg b0], by simp⟩
                · simp [c4, c6, w64_1, w64_2, w64_3]
                  exact ⟨3, by omega, by omega, by simp [mshC_eq], by rw [q1, step, if_neg b0], by simp⟩
    · simp [mshC_eq]
      exact qup_3 m i
end Go.Gv

set_option linter.unusedSimpArgs false
namespace Go.Gv
def exM (z : Int) : Msh := ⟨false, [⟨0, 0, 0⟩, ⟨30, 0, z⟩, ⟨30, 30, 9⟩, ⟨0, 30, 0⟩], false, [⟨0, 1, 2, 0⟩, ⟨0, 2, 3, 0⟩]⟩
variable {C : CC} (hC : Closed prog C)
include hC
theorem eqI_c (b b' : Bool) (xs ys : List Int) (hx : xs.length < 2 ^ 62) (hy : ys.length < 2 ^ 62) : C 19 [slx b (xs.map fun n => [.int .i64 n]), slx b' (ys.map fun n => [.int .i64 n])] (.bool (decide (xs = ys))) [] := by
  refine start hC (nf := N19_slices_Equal__int_int) rfl rfl ?_
  simp [N19_slices_Equal__int_int]
  refine brB_of (fun h => ?_) (fun h => ?_) <;> simp at h <;> simp [h]
  · rintro rfl; exact h rfl
  have h' : xs.length = ys.length := by omega
  refine loop_of Nat (fun i => [(0, slx b (xs.map fun n => [.int .i64 n])), (1, slx b' (ys.map fun n => [.int .i64 n])), (12, .int .i64 ys.length), (13, .int .i64 i)])
    (fun i => i ≤ ys.length ∧ ∀ k, k < i → xs[k]? = ys[k]?) (fun i => ys.length - i) 0 (by simp) (by simp) ?_
  rintro i ⟨hi, hok⟩
  simp
  refine brB_of (fun h1 => ?_) (fun h1 => ?_) <;> simp at h1 <;> simp [h1]
  · have hw : IntKind.wrap .i64 ((i : Int) + 1) = ((i + 1 : Nat) : Int) := wrap_i64 (by omega) (by omega)
    have hx1 : i < xs.length := by omega
    simp [h1, hx1]
    refine ⟨indW_of (by decide +kernel), ?_⟩
    refine brB_of (fun h2 => ?_) (fun h2 => ?_) <;> simp [h1, hx1] at h2 <;> simp [h1, hx1, h2, hw]
    · rintro rfl
      exact h2 rfl
    · refine ⟨i + 1, ⟨by omega, fun k hk => ?_⟩, by omega, rfl⟩
      rcases Nat.lt_succ_iff_lt_or_eq.1 hk with h5 | rfl
      · exact hok k h5
      · rw [List.getElem?_eq_getElem h1, List.getElem?_eq_getElem hx1, h2]
  · refine List.ext_getElem? fun k => ?_
    rcases Nat.lt_or_ge k i with h2 | h2
    · exact hok k h2
    · rw [List.getElem?_eq_none (by omega), List.getElem?_eq_none (by omega)]
theorem example_c (z : Int) : C 252 [.int .i64 z] (.agg (mshC (exM z))) [] := by
  refine start hC (nf := N252_law10_example) rfl rfl ?_
  simp [N252_law10_example, exM, mshC_eq, sptC_eq, fceC_eq, List.replicate]
end Go.Gv

set_option linter.unusedSimpArgs false
namespace Go.Gv
theorem ex_v3 : validM (exM 3) = true := by decide +kernel
theorem ex_v0 : validM (exM 0) = true := by decide +kernel
theorem ex_s3 : sumL (exM 3) = [12, 9] := by decide +kernel
theorem ex_f0 : flowL (exM 0) = [-1, -1] := by decide +kernel
theorem ex_f3 : flowL (exM 3) = [1, -1] := by decide +kernel
theorem ex_p3 : pathL (exM 3) 0 = [0, 1] := by decide +kernel
variable {C : CC} (hC : Closed prog C)
include hC
set_option maxHeartbeats 2000000 in
theorem awake10_c (dec : Nat → List UInt8) (hI : ∀ n : Nat, n < 100 → C 127 [.int .i64 n] (.str (dec n)) []) : C 211 [] (.bool true) [] := by
  have hz : ∀ z, smallM (exM z) = true → (exM z).s.length ≤ 100 ∧ (exM z).f.length ≤ 100 := fun z _ => by simp [exM]
  have e3 := example_c hC 3
  have e0 := example_c hC 0
  have k1 := Sums_c hC dec hI (exM 3) (hz 3)
  have k2 := Flow_c hC dec hI (exM 0) (hz 0)
  have k3 := Flow_c hC dec hI (exM 3) (hz 3)
  have k4 := Path_c hC dec hI (exM 3) (hz 3) 0
  rw [ex_v3, ex_s3] at k1
  rw [ex_v0, ex_f0] at k2
  rw [ex_v3, ex_f3] at k3
  rw [ex_v3, ex_p3, show inR1 (exM 3).f.length 0 = true from rfl] at k4
  have q1 := eqI_c hC false false [12, 9] [12, 9] (by simp) (by simp)
  have q2 := eqI_c hC false false [-1, -1] [-1, -1] (by simp) (by simp)
  have q3 := eqI_c hC false false [1, -1] [1, -1] (by simp) (by simp)
  have q4 := eqI_c hC false false [0, 1] [0, 1] (by simp) (by simp)
  simp [inR_eq] at k1 k2 k3 k4 q1 q2 q3 q4
  obtain ⟨A3, hA3⟩ : ∃ A, A = mshC (exM 3) := ⟨_, rfl⟩
  obtain ⟨A0, hA0⟩ : ∃ A, A = mshC (exM 0) := ⟨_, rfl⟩
  have c3 : ∃ a b : Bool × List (List D), A3 = [slx a.1 a.2, slx b.1 b.2] := ⟨(false, _), (false, _), by rw [hA3, mshC_eq]; rfl⟩
  have c0 : ∃ a b : Bool × List (List D), A0 = [slx a.1 a.2, slx b.1 b.2] := ⟨(false, _), (false, _), by rw [hA0, mshC_eq]; rfl⟩
  rw [← hA3] at e3 k1 k3 k4
  rw [← hA0] at e0 k2
  obtain ⟨a, b, rfl⟩ := c3
  obtain ⟨a', b', rfl⟩ := c0
  refine start hC (nf := N211_law10_awake) rfl rfl ?_
  simp [N211_law10_awake]
  refine callW_of e3 (.inr rfl) ?_
  simp
  refine callW_of k1 (.inr rfl) ?_
  simp
  refine callW_of e0 (.inr rfl) ?_
  simp
  refine callW_of k2 (.inr rfl) ?_
  simp
  refine callW_of e3 (.inr rfl) ?_
  simp
  refine callW_of k3 (.inr rfl) ?_
  simp
  refine callW_of e3 (.inr rfl) ?_
  simp
  refine callW_of k4 (.inr rfl) ?_
  simp
  refine callW_of q1 (.inl rfl) ?_
  simp
  refine callW_of q2 (.inl rfl) ?_
  simp
  refine callW_of q3 (.inl rfl) ?_
  simp
  refine callW_of q4 (.inl rfl) ?_
  simp
end Go.Gv

set_option linter.unusedSimpArgs false
namespace Go.Gv
theorem stpF_neg {m : Msh} {i : Nat} {best n : Int} (hb : best = -2 ∨ 0 ≤ best) (h : stpF m i best n = -2) : best = -2 ∧ (n < 0 ∨ sumF m i ≤ sumF m n.toNat) := by
  unfold stpF at h
  split at h
  · rename_i h1
    exact ⟨h, h1⟩
  · rename_i h1
    split at h
    · omega
    · rename_i h2
      split at h <;> omega
theorem upF_neg {m : Msh} {i : Nat} (h : upF m i 3 = -2) : ∀ c, c < 3 → nbF m i c < 0 ∨ sumF m i ≤ sumF m (nbF m i c).toNat := by
  have b := fun k => (by have := upF_bd m i k; omega : upF m i k = -2 ∨ 0 ≤ upF m i k)
  have h2 := stpF_neg (b 2) (show stpF m i (upF m i 2) (nbF m i 2) = -2 from h)
  have h1 := stpF_neg (b 1) (show stpF m i (upF m i 1) (nbF m i 1) = -2 from h2.1)
  have h0 := stpF_neg (b 0) (show stpF m i (upF m i 0) (nbF m i 0) = -2 from h1.1)
  intro c hc
  rcases (by omega : c = 0 ∨ c = 1 ∨ c = 2) with rfl | rfl | rfl
  · exact h0.2
  · exact h1.2
  · exact h2.2
/-- Where the water runs to no face. -/
theorem runF_neg {m : Msh} {i : Nat} (h : runF m i < 0) : (∀ c, c < 3 → nbF m i c < 0 ∨ sumF m i ≤ sumF m (nbF m i c).toNat) ∧ ((runF m i = -1 ∧ bsd m i (-1) = true) ∨ (runF m i = -2 ∧ bsd m i (-1) = false)) := by
  have hb := upF_bd m i 3
  unfold runF at h ⊢
  by_cases hu : upF m i 3 = -2
  · refine ⟨upF_neg hu, ?_⟩
    cases hs : bsd m i (-1)
    · right; simp [hu]
    · left; simp [hu]
  · rw [if_neg (by omega)] at h
    omega
theorem pth_ok (m : Msh) : ∀ (k : Nat) (f : Int), 0 ≤ f → f < m.f.length → rnk m f.toNat < k → (pth m k f)[0]? = some f ∧ (∀ (j : Nat) (x : Int), (pth m k f)[j]? = some x → 0 ≤ x ∧ x < m.f.length) ∧
    (∀ (j : Nat) (x y : Int), (pth m k f)[j]? = some x → (pth m k f)[j + 1]? = some y → y = runF m x.toNat) ∧ (∀ (j : Nat) (x : Int), j + 1 = (pth m k f).length → (pth m k f)[j]? = some x → runF m x.toNat < 0)
  | 0, f, _, _, h => by omega
  | k + 1, f, h0, h1, h2 => by
    rw [pth, if_neg (by omega)]
    rcases runF_bd m f.toNat with h | h | ⟨r1, r2, r3⟩
    · rw [pth_neg m k (f := runF m f.toNat) (by omega)]
      refine ⟨rfl, fun j x hx => ?_, fun j x y hx hy => ?_, fun j x hj hx => ?_⟩
      · cases j <;> simp at hx
        subst hx; exact ⟨h0, h1⟩
      · simp at hy
      · simp at hj
        subst hj
        simp at hx
        subst hx; omega
    · rw [pth_neg m k (f := runF m f.toNat) (by omega)]
      refine ⟨rfl, fun j x hx => ?_, fun j x y hx hy => ?_, fun j x hj hx => ?_⟩
      · cases j <;> simp at hx
        subst hx; exact ⟨h0, h1⟩
      · simp at hy
      · simp at hj
        subst hj
        simp at hx
        subst hx; omega
    · have hr := rnk_lt (m := m) (i := f.toNat) (j := (runF m f.toNat).toNat) (by omega) r3
      obtain ⟨i1, i2, i3, i4⟩ := pth_ok m k (runF m f.toNat) r1 r2 (by omega)
      refine ⟨rfl, fun j x hx => ?_, fun j x y hx hy => ?_, fun j x hj hx => ?_⟩
      · cases j with
        | zero => simp at hx; subst hx; exact ⟨h0, h1⟩
        | succ j => simp at hx; exact i2 j x hx
      · simp at hy
        cases j with
        | zero =>
          simp at hx; subst hx
          rw [i1] at hy
          exact (Option.some.inj hy).symm
        | succ j => simp at hx; exact i3 j x y hx hy
      · cases j with
        | zero =>
          simp at hj
          rw [hj] at i1
          simp at i1
        | succ j =>
          simp at hx hj
          exact i4 j x (by omega) hx
theorem sumL_at (m : Msh) (i : Nat) (h : i < (sumL m).length) : (sumL m)[i] = sumF m i := by simp [sumL]
theorem flowL_at (m : Msh) (i : Nat) (h : i < (flowL m).length) : (flowL m)[i] = runF m i := by simp [flowL]
theorem sumL_len (m : Msh) : (sumL m).length = m.f.length := by simp [sumL]
theorem flowL_len (m : Msh) : (flowL m).length = m.f.length := by simp [flowL]
theorem lakL_has (m : Msh) {e : Int} (h0 : 0 ≤ e) (h1 : e < m.f.length) : ((lakL m).any fun x => decide (e = x)) = decide (runF m e.toNat = -2) := by
  rw [Bool.eq_iff_iff]
  simp only [lakL, lakT, List.any_eq_true, List.mem_map, List.mem_filter, List.mem_range, decide_eq_true_eq]
  constructor
  · rintro ⟨x, ⟨j, ⟨h2, h3⟩, rfl⟩, rfl⟩
    simpa using h3
  · intro h
    exact ⟨e, ⟨e.toNat, ⟨by omega, h⟩, by omega⟩, rfl⟩
variable {C : CC} (hC : Closed prog C)
include hC
end Go.Gv

set_option linter.unusedSimpArgs false
namespace Go.Gv
def qfl (m : Msh) (i : Nat) : List Int := (List.range i).map fun j => runF m j
@[simp] theorem qfl_take (m : Msh) (i : Nat) : List.take i (inR (qfl m i)) = inR (qfl m i) := List.take_of_length_le (by simp [qfl])
@[simp] theorem qfl_len (m : Msh) (i : Nat) : (qfl m i).length = i := by simp [qfl]
theorem qfl_add (m : Msh) (i : Nat) : qfl m i ++ [runF m i] = qfl m (i + 1) := by simp [qfl, List.range_succ]
variable {C : CC} (hC : Closed prog C)
include hC
theorem qFlow_c (m : Msh) (hv : validM m = true) (hm : m.f.length ≤ 100) : C 216 [.agg (mshC m)] (.sl (inR (flowL m))) [] := by
  have kn := qNeighbours_c hC m hm
  have kr := fun i hi => qRuns_c hC m hv i hi
  simp only [mshC_eq] at kn kr
  refine start hC (nf := N216_ref10_Flow) rfl rfl ?_
  simp [N216_ref10_Flow, mshC_eq]
  refine callW_of kn (.inr rfl) ?_
  simp
  refine loop_of Nat (fun i => [(1, .ptr (mshC m)), (3, .sl (nbA m)), (4, .ref (.r 10064) 0 i), (10064, .blk 1 (inR (qfl m i))), (5, .int .i64 i)]) (fun i => i ≤ m.f.length) (fun i => m.f.length - i) 0 (by simp) (by simp [mshC_eq, qfl]) ?_
  rintro i hi
  simp [mshC_eq]
  refine brB_of (fun g1 => ?_) (fun g1 => ?_) <;> simp at g1 <;> simp [g1]
  · have hw : IntKind.wrap .i64 ((i : Int) + 1) = ((i + 1 : Nat) : Int) := wrap_i64 (by omega) (by omega)
    refine callW_of (kr i g1) (.inl rfl) ?_
    simp
    have e := qfl_add m i
    refine ⟨by omega, i + 1, by omega, by omega, by simp [mshC_eq], rfl, ?_, hw⟩
    rw [← e, inR_add]
  · have hi2 : i = m.f.length := by omega
    subst hi2
    rfl
theorem qIsFace_c (m : Msh) (x : Int) : C 217 [.agg (mshC m), .int .i64 x] (.bool (inR1 m.f.length x)) [] := by
  refine start hC (nf := N217_ref10_IsFace) rfl rfl ?_
  simp [N217_ref10_IsFace, mshC_eq]
  have E : inR1 m.f.length x = (decide (0 ≤ x) && decide (x < m.f.length)) := rfl
  rw [E]
  refine brB_of (fun c1 => ?_) (fun c1 => ?_) <;> simp at c1
  · simp [c1]
  · simp [Int.not_le.2 c1]
theorem qPath_c (m : Msh) (hm : m.f.length ≤ 100) (f : Int) (h0 : 0 ≤ f) (h1 : f < m.f.length) : C 218 [.sl (inR (flowL m)), .int .i64 f] (.sl (inR (pathL m f))) [] := by
  have lL : (flowL m).length = m.f.length := flowL_len m
  have hL := flowL_at m
  obtain ⟨L, eL⟩ : ∃ L, L = flowL m := ⟨_, rfl⟩
  rw [← eL] at lL hL ⊢
  refine start hC (nf := N218_ref10_Path) rfl rfl ?_
  simp [N218_ref10_Path]
  refine loop_of (List Int × Int × Nat) (fun s => [(0, .sl (inR L)), (5, .ref (.r 10080) 0 (s.1.length + 1)), (10080, .blk 1 (inR (s.1 ++ [s.2.1])))]) (fun s => s.1 ++ pth m s.2.2 s.2.1 = pathL m f ∧ 0 ≤ s.2.1 ∧ s.2.1 < m.f.length ∧ rnk m s.2.1.toNat < s.2.2 ∧ s.1.length + s.2.2 ≤ m.f.length) (fun s => s.2.2) ([], f, m.f.length) ⟨by simp [pathL], h0, h1, rnk_le (i := f.toNat) (by omega), by simp⟩ (by simp [inR_eq]) ?_
  rintro ⟨l, g, k⟩ ⟨h1, h2, h3, h4, h5⟩
  simp only at h1 h2 h3 h4 h5
  have wl : IntKind.wrap .i64 (l.length : Int) = (l.length : Int) := wrap_i64 rfl (by omega)
  have hrow : (List.map (fun n => [D.int IntKind.i64 n]) l ++ [[D.int IntKind.i64 g]])[l.length]? = some [D.int IntKind.i64 g] := by
    rw [List.getElem?_append_right (by simp)]; simp
  have gl : g.toNat < L.length := by omega
  have xr : L[g.toNat]?.getD 0 = runF m g.toNat := by rw [List.getElem?_eq_getElem gl]; exact hL _ _
  have xr2 : L[g.toNat] = runF m g.toNat := hL _ _
  simp [inR_eq, wl]
  rw [rowW_some hrow]
  simp [h2, gl, xr2]
  obtain ⟨k', rfl⟩ : ∃ k', k = k' + 1 := ⟨k - 1, by omega⟩
  rw [pth, if_neg (by omega)] at h1
  refine brB_of (fun g1 => ?_) (fun g1 => ?_) <;> simp at g1 <;> simp [g1]
  · simp [wl]
    rw [rowW_some hrow]
    simp [h2, gl, xr2]
    have hr : runF m g.toNat < m.f.length ∧ sumF m (runF m g.toNat).toNat < sumF m g.toNat := by
      rcases runF_bd m g.toNat with h | h | ⟨_, r2, r3⟩
      · omega
      · omega
      · exact ⟨r2, r3⟩
    have hk := rnk_lt (m := m) (i := g.toNat) (j := (runF m g.toNat).toNat) (by omega) hr.2
    refine ⟨by omega, by omega, l ++ [g], runF m g.toNat, ⟨k', ⟨by simpa using h1, g1, hr.1, by omega, by simp; omega⟩, by omega, by simp, ?_, ?_⟩⟩
    · rw [List.take_of_length_le (by simp)]
      simp
    · rfl
  · rw [pth_neg m k' g1] at h1
    rw [← h1]
    have e1 : (fun e => List.map cellV e) ∘ (fun n : Int => [D.int IntKind.i64 n]) = fun n : Int => [D.int IntKind.i64 n] := by funext n; simp
    rw [e1, List.take_of_length_le (by simp)]
    simp
end Go.Gv

set_option linter.unusedSimpArgs false
namespace Go.Gv
def largeM (m : Msh) : Bool := (decide ((80 : Int) < (m.s.length : Int)) && decide ((m.s.length : Int) ≤ 2000)) || (decide ((80 : Int) < (m.f.length : Int)) && decide ((m.f.length : Int) ≤ 4000)) || decide ((2010 : Int) < (m.s.length : Int)) || decide ((4010 : Int) < (m.f.length : Int))
theorem largeM_small {m : Msh} (h : largeM m = false) (hs : smallM m = true) : m.s.length ≤ 100 ∧ m.f.length ≤ 100 := by
  simp only [largeM, Bool.or_eq_false_iff, Bool.and_eq_false_iff, decide_eq_false_iff_not] at h
  simp only [smallM, Bool.and_eq_true, decide_eq_true_eq] at hs
  omega
variable {C : CC} (hC : Closed prog C)
include hC
set_option maxHeartbeats 2000000 in
theorem large_c (m : Msh) : C 212 [.agg (mshC m)] (.bool (largeM m)) [] := by
  obtain ⟨L, eL⟩ : ∃ L, L = largeM m := ⟨_, rfl⟩
  rw [← eL]
  unfold largeM at eL
  refine start hC (nf := N212_law10_large) rfl rfl ?_
  simp [N212_law10_large, mshC_eq]
  by_cases a1 : (80 : Int) < (m.s.length : Int) <;> by_cases a2 : (m.s.length : Int) ≤ 2000 <;> by_cases b1 : (80 : Int) < (m.f.length : Int) <;> by_cases b2 : (m.f.length : Int) ≤ 4000 <;> by_cases c : (2010 : Int) < (m.s.length : Int) <;> by_cases d : (4010 : Int) < (m.f.length : Int) <;> first
    | omega
    | (simp only [a1, a2, b1, b2, c, d, decide_true, decide_false, Bool.and_true, Bool.true_and, Bool.and_false, Bool.false_and, Bool.or_true, Bool.true_or, Bool.or_false, Bool.false_or] at eL
       subst eL
       simp [a1, a2, b1, b2, c, d])
theorem ReliefFlows_c (dec : Nat → List UInt8) (hI : ∀ n : Nat, n < 100 → C 127 [.int .i64 n] (.str (dec n)) []) (m : Msh) (f : Int) : C 203 [.agg (mshC m), .int .i64 f] (.bool true) [] := by
  have ka := awake10_c hC dec hI
  have kl := large_c hC m
  refine start hC (nf := N203_law10_ReliefFlows) rfl rfl ?_
  simp only [mshC_eq] at kl
  simp [N203_law10_ReliefFlows, mshC_eq]
  refine callW_of ka (.inl rfl) ?_
  simp
  refine callW_of kl (.inl rfl) ?_
  cases hl : largeM m
  rotate_left
  · simp
  have hz : smallM m = true → m.s.length ≤ 100 ∧ m.f.length ≤ 100 := fun h => largeM_small hl h
  have k1 := Flow_c hC dec hI m hz
  have k2 := Path_c hC dec hI m hz f
  have k3 := rValid_c hC m hz
  have k6 := qIsFace_c hC m f
  simp only [mshC_eq] at k1 k2 k3 k6
  cases hv : validM m
  · rw [hv] at k1 k2 k3
    simp at k1 k2
    simp
    refine callW_of k1 (.inr rfl) ?_
    simp
    refine callW_of k2 (.inr rfl) ?_
    simp
    refine callW_of k3 (.inl rfl) ?_
    simp
  · have hm : m.f.length ≤ 100 := (hz (by simp only [validM, Bool.and_eq_true] at hv; exact hv.1)).2
    have k4 := qFlow_c hC m hv hm
    have hp := pth_len m m.f.length f
    rw [show pth m m.f.length f = pathL m f from rfl] at hp
    have lL := flowL_len m
    have k5 := eqI_c hC false false (flowL m) (flowL m) (by omega) (by omega)
    have k8 := eqI_c hC false false (pathL m f) (pathL m f) (by omega) (by omega)
    simp only [← inR_eq] at k5 k8
    simp at k5 k8
    rw [hv] at k1 k2 k3
    simp only [mshC_eq, if_true] at k1 k2 k4
    cases hf : inR1 m.f.length f
    · rw [hf] at k2 k6
      simp at k2
      simp
      refine callW_of k1 (.inr rfl) ?_
      simp
      refine callW_of k2 (.inr rfl) ?_
      simp
      refine callW_of k3 (.inl rfl) ?_
      simp
      refine callW_of k4 (.inr rfl) ?_
      simp
      refine callW_of k5 (.inl rfl) ?_
      simp
      refine callW_of k6 (.inl rfl) ?_
      simp
    · rw [hf] at k2 k6
      simp only [inR1, Bool.and_eq_true, decide_eq_true_eq] at hf
      have k7 := qPath_c hC m hm f hf.1 hf.2
      simp at k2
      simp
      refine callW_of k1 (.inr rfl) ?_
      simp
      refine callW_of k2 (.inr rfl) ?_
      simp
      refine callW_of k3 (.inl rfl) ?_
      simp
      refine callW_of k4 (.inr rfl) ?_
      simp
      refine callW_of k5 (.inl rfl) ?_
      simp
      refine callW_of k6 (.inl rfl) ?_
      simp
      refine callW_of k7 (.inr rfl) ?_
      simp
      refine callW_of k8 (.inl rfl) ?_
      simp
end Go.Gv
