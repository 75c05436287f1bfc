/-
  Texts of the proof: H12, L10, L11, GvT3, L13, L14, I1, I2, I3, I4, H13, H14, H15, I5, I6, J29, L12, L15, L16, L19, L20, L21, L22.
-/
import Derived.Test.YtaodbcdhomimpaaGreatDoorX8
import Derived.Test.YtaodbcdhomimpaaGreatDoorX7
import Derived.Shelf.SlSortCmp.Whole1
import Derived.Shelf.SlSortCmp.NoneTotal
set_option linter.all false
set_option linter.unusedSimpArgs false
namespace Go.Gv
theorem runF_bd (m : Msh) (i : Nat) : runF m i = -1 ∨ runF m i = -2 ∨ (0 ≤ runF m i ∧ runF m i < m.f.length ∧ sumF m (runF m i).toNat < sumF m i) := by
  have := upF_bd m i 3
  unfold runF
  split
  · exact .inl rfl
  · rcases this with h | h
    · exact .inr (.inl h)
    · exact .inr (.inr h)
def inR (l : List Int) : List (List D) := l.map fun n => [.int .i64 n]
theorem inR_eq (l : List Int) : inR l = l.map fun n => [.int .i64 n] := rfl
@[simp] theorem inR_len (l : List Int) : (inR l).length = l.length := by simp [inR]
@[simp] theorem inR_take (l : List Int) : List.take l.length (inR l) = inR l := List.take_of_length_le (by simp)
@[simp] theorem inR_cv (l : List Int) : List.map (fun e => List.map cellV e) (inR l) = inR l := by simp [inR]
@[simp] theorem inR_nil : inR [] = [] := rfl
theorem inR_add (l : List Int) (n : Int) : inR l ++ [[.int .i64 n]] = inR (l ++ [n]) := by simp [inR]
def sumL (m : Msh) : List Int := (List.range m.f.length).map fun j => sumF m j
def flowL (m : Msh) : List Int := (List.range m.f.length).map fun j => runF m j
theorem smR_L (m : Msh) : smR m m.f.length = inR (sumL m) := by simp [smR, inR, sumL]
def flT (m : Msh) (i : Nat) : List Int := (List.range i).map fun j => runF m j
theorem flT_len (m : Msh) (i : Nat) : (flT m i).length = i := by simp [flT]
theorem flT_add (m : Msh) (i : Nat) : flT m i ++ [runF m i] = flT m (i + 1) := by simp [flT, List.range_succ]
def flB (m : Msh) : Nat → List (List D)
  | 0 => List.replicate m.f.length [.int .i64 0]
  | i + 1 => inR (flT m (i + 1))
theorem flB_take (m : Msh) (i : Nat) : List.take i (flB m i) = inR (flT m i) := by
  cases i with
  | zero => simp [flB, flT]
  | succ i =>
    have := inR_take (flT m (i + 1))
    rw [flT_len] at this
    exact this
theorem flB_cv (m : Msh) (i : Nat) : List.map (fun e => List.map cellV e) (flB m i) = flB m i := by cases i <;> simp [flB]
theorem flB_len (m : Msh) {i : Nat} : i ≤ (flB m i).length := by
  cases i with
  | zero => simp
  | succ i => simp [flB, flT_len]
def pth (m : Msh) : Nat → Int → List Int
  | 0, _ => []
  | k + 1, f => if f < 0 then [] else f :: pth m k (runF m f.toNat)
def rnk (m : Msh) (i : Nat) : Nat := ((List.range m.f.length).filter fun j => decide (sumF m j < sumF m i)).length
theorem rnk_lt {m : Msh} {i j : Nat} (hj : j < m.f.length) (h : sumF m j < sumF m i) : rnk m j < rnk m i :=
  filter_lt (j := j) (fun x hx => by simp at hx ⊢; omega) (by simpa using h) (by simp) _ (List.mem_range.2 hj)
theorem rnk_le {m : Msh} {i : Nat} (hi : i < m.f.length) : rnk m i < m.f.length := by
  have h : rnk m i < ((List.range m.f.length).filter fun _ => true).length := filter_lt (j := i) (fun x _ => rfl) rfl (by simp) _ (List.mem_range.2 hi)
  have : ((List.range m.f.length).filter fun _ => true) = List.range m.f.length := by simp
  rw [this, List.length_range] at h
  exact h
def pathL (m : Msh) (f : Int) : List Int := pth m m.f.length f
theorem pth_neg (m : Msh) (k : Nat) {f : Int} (h : f < 0) : pth m k f = [] := by
  cases k with
  | zero => rfl
  | succ k => rw [pth, if_pos h]
theorem pth_len (m : Msh) : ∀ (k : Nat) (f : Int), (pth m k f).length ≤ k
  | 0, f => by simp [pth]
  | k + 1, f => by
    rw [pth]
    split
    · simp
    · have := pth_len m k (runF m f.toNat)
      simp; omega
def lakT (m : Msh) (i : Nat) : List Int := ((List.range i).filter fun j => decide (runF m j = -2)).map fun (j : Nat) => (j : Int)
theorem lakT_le (m : Msh) (i : Nat) : (lakT m i).length ≤ i := by
  have := List.length_filter_le (fun j => decide (runF m j = -2)) (List.range i)
  simp [lakT] at this ⊢
  omega
theorem lakT_yes {m : Msh} {i : Nat} (h : runF m i = -2) : lakT m i ++ [(i : Int)] = lakT m (i + 1) := by simp [lakT, List.range_succ, List.filter_append, h]
theorem lakT_no {m : Msh} {i : Nat} (h : runF m i ≠ -2) : lakT m i = lakT m (i + 1) := by simp [lakT, List.range_succ, List.filter_append, h]
def lakL (m : Msh) : List Int := lakT m m.f.length
variable {C : CC} (hC : Closed prog C)
include hC
theorem rValid_c (m : Msh) (hz : smallM m = true → m.s.length ≤ 100 ∧ m.f.length ≤ 100) : C 215 [.agg (mshC m)] (.bool (validM m)) [] := by
  have ks := rsmall_c hC m
  rw [show (decide (m.s.length ≤ 2000) && decide (m.f.length ≤ 4000)) = smallM m from rfl] at ks
  refine start hC (nf := N215_ref09_Valid) rfl rfl ?_
  simp only [mshC_eq] at ks
  simp [N215_ref09_Valid, mshC_eq]
  refine callW_of ks (.inl rfl) ?_
  cases hs : smallM m
  · simp [validM, hs]
  · obtain ⟨h1, h2⟩ := hz hs
    have k := rCheck_c hC m h1 h2
    have e : validM m = decide ((outF decF 0 (LL m)).length = 0) := by
      rw [validM, hs, Bool.true_and, Bool.eq_iff_iff, decide_eq_true_eq, List.length_eq_zero_iff, outF_nil]
    rw [e]
    obtain ⟨X, hX⟩ : ∃ X, X = outF decF 0 (LL m) := ⟨_, rfl⟩
    rw [← hX] at k ⊢
    simp only [mshC_eq] at k
    simp
    refine callW_of k (.inr rfl) ?_
    simp
theorem flow_c (m : Msh) (hv : validM m = true) : C 254 [.ptr (grC m)] (.sl (inR (flowL m))) [] := by
  have hsz := valid_small hv
  have kr := fun i hi => runs_c hC m hv i hi
  refine start hC (nf := N254_relief_ground_flow) rfl rfl ?_
  simp [N254_relief_ground_flow, grC_eq]
  refine ⟨by omega, ?_⟩
  refine loop_of Nat (fun i => [(0, .ptr (grC m)), (3, .ref (.r 10048) 0 i), (10048, .blk 1 (flB m i)), (15, .int .i64 m.f.length), (16, .int .i64 i)]) (fun i => i ≤ m.f.length) (fun i => m.f.length - i) 0 (by simp) (by simp [grC_eq, flB]) ?_
  rintro i hi
  simp
  refine brB_of (fun g1 => ?_) (fun g1 => ?_) <;> simp at g1 <;> simp [g1]
  · have hw : IntKind.wrap .i64 ((i : Int) + 1) = ((i + 1 : Nat) : Int) := wrap_i64 (by omega) (by omega)
    refine callW_of (kr i (by omega)) (.inl rfl) ?_
    simp
    have hl := flB_len m (i := i)
    refine ⟨by omega, by omega, i + 1, by omega, by omega, rfl, ?_, hw⟩
    rw [flB_take, inR_add, flT_add]
    rfl
  · have hi2 : i = m.f.length := by omega
    subst hi2
    refine ⟨flB_len m, ?_⟩
    rw [flB_cv, flB_take]
    rfl
theorem Sums_c (dec : Nat → List UInt8) (hI : ∀ n : Nat, n < 100 → C 127 [.int .i64 n] (.str (dec n)) []) (m : Msh) (hz : smallM m = true → m.s.length ≤ 100 ∧ m.f.length ≤ 100) :
    C 220 [.agg (mshC m)] (if validM m then .tup [slx true (inR (sumL m)), .int .i64 0] else .tup [.nils, .int .i64 1]) [] := by
  have k := made_c hC dec hI m hz
  refine start hC (nf := N220_relief_Sums) rfl rfl ?_
  simp only [mshC_eq] at k
  simp [N220_relief_Sums, mshC_eq]
  refine callW_of k (.inr rfl) ?_
  cases hv : validM m
  · simp
  · simp [grC_eq, smR_L]
theorem Flow_c (dec : Nat → List UInt8) (hI : ∀ n : Nat, n < 100 → C 127 [.int .i64 n] (.str (dec n)) []) (m : Msh) (hz : smallM m = true → m.s.length ≤ 100 ∧ m.f.length ≤ 100) :
    C 213 [.agg (mshC m)] (if validM m then .tup [.sl (inR (flowL m)), .int .i64 0] else .tup [.nils, .int .i64 1]) [] := by
  have k := made_c hC dec hI m hz
  refine start hC (nf := N213_relief_Flow) rfl rfl ?_
  simp only [mshC_eq] at k
  simp [N213_relief_Flow, mshC_eq]
  refine callW_of k (.inr rfl) ?_
  cases hv : validM m
  · simp
  · have kf := flow_c hC m hv
    simp
    refine callW_of kf (.inr rfl) ?_
    simp
theorem has1_c (m : Msh) (x : Int) : C 288 [.int .i64 x, .ptr [.ptr (grC m)]] (.bool (!(inR1 m.f.length x))) [] := by
  have E : inR1 m.f.length x = (decide (0 ≤ x) && decide (x < m.f.length)) := rfl
  refine start hC (nf := N288_relief_ground_has_1) rfl rfl ?_
  simp [N288_relief_ground_has_1, grC_eq]
  refine brB_of (fun c1 => ?_) (fun c1 => ?_) <;> simp at c1
  · simp [c1]
    rw [E, decide_eq_false (by omega)]; simp
  · simp [Int.not_lt.2 c1, c1]
    rw [E, decide_eq_true c1]
    simp
    rw [Bool.eq_iff_iff]; simp
theorem has_c (m : Msh) (b : Bool) (xs : List Int) (hx : xs.length < 2 ^ 62) : C 255 [.ptr (grC m), slx b (xs.map fun x => [.int .i64 x])] (.bool (!xs.any fun x => !(inR1 m.f.length x))) [] := by
  have k := hasInt_c hC (b := b) (xs := xs) (g := 288) (cs := [.ptr [.ptr (grC m)]]) (fun x => !(inR1 m.f.length x)) hx (fun x _ => has1_c hC m x)
  refine start hC (nf := N255_relief_ground_has) rfl rfl ?_
  simp [N255_relief_ground_has]
  refine callW_of k (.inl rfl) ?_
  simp
theorem Path_c (dec : Nat → List UInt8) (hI : ∀ n : Nat, n < 100 → C 127 [.int .i64 n] (.str (dec n)) []) (m : Msh) (hz : smallM m = true → m.s.length ≤ 100 ∧ m.f.length ≤ 100) (f : Int) :
    C 214 [.agg (mshC m), .int .i64 f] (if validM m then (if inR1 m.f.length f then .tup [.sl (inR (pathL m f)), .int .i64 0] else .tup [.nils, .int .i64 2]) else .tup [.nils, .int .i64 1]) [] := by
  have k := made_c hC dec hI m hz
  have kh := has_c hC m false [f] (by simp)
  simp at kh
  refine start hC (nf := N214_relief_Path) rfl rfl ?_
  simp only [mshC_eq] at k
  simp [N214_relief_Path, mshC_eq]
  refine callW_of k (.inr rfl) ?_
  cases hv : validM m
  · simp
  · have hsz := valid_small hv
    have kr := fun i hi => runs_c hC m hv i hi
    simp
    refine callW_of kh (.inl rfl) ?_
    cases hf : inR1 m.f.length f
    · simp
    · have hf2 := hf
      simp only [inR1, Bool.and_eq_true, decide_eq_true_eq] at hf2
      simp
      refine loop_of (List Int × Int × Nat) (fun s => [(1, .int .i64 s.2.1), (6, .ptr (grC m)), (8, .ref (.r 10128) 0 s.1.length), (10128, .blk 1 (inR s.1))]) (fun s => s.1 ++ pth m s.2.2 s.2.1 = pathL m f ∧ s.2.1 < m.f.length ∧ (s.2.1 < 0 ∨ rnk m s.2.1.toNat < s.2.2) ∧ s.1.length + s.2.2 ≤ m.f.length) (fun s => s.2.2 + (if s.2.1 < 0 then 0 else 1)) ([], f, m.f.length) ⟨by simp [pathL], hf2.2, .inr (rnk_le (i := f.toNat) (by omega)), by simp⟩ (by simp) ?_
      rintro ⟨l, g, k⟩ ⟨h1, h2, h3, h4⟩
      simp only at h1 h2 h3 h4
      simp
      refine brB_of (fun g1 => ?_) (fun g1 => ?_) <;> simp at g1 <;> simp [g1]
      · have hg : g.toNat < m.f.length := by omega
        have kg := kr g.toNat hg
        rw [Int.toNat_of_nonneg g1] at kg
        obtain ⟨k', rfl⟩ : ∃ k', k = k' + 1 := ⟨k - 1, by omega⟩
        rw [pth, if_neg (by omega)] at h1
        refine ⟨by omega, ?_⟩
        refine callW_of kg (.inl rfl) ?_
        simp
        have rb := runF_bd m g.toNat
        refine ⟨l ++ [g], runF m g.toNat, k', ⟨by rw [← h1]; simp, by omega, ?_, by simp; omega⟩, ?_, rfl, by simp, inR_add l g⟩
        · rcases rb with h | h | ⟨r1, r2, r3⟩
          · exact .inl (by omega)
          · exact .inl (by omega)
          · have := rnk_lt (m := m) (i := g.toNat) (j := (runF m g.toNat).toNat) (by omega) r3
            exact .inr (by omega)
        · split <;> split <;> omega
      · rw [pth_neg m k g1] at h1
        rw [← h1]
        simp
end Go.Gv

set_option linter.unusedSimpArgs false
namespace Go.Gv
def sumR (f : Nat → Int) : Nat → Int
  | 0 => 0
  | n + 1 => sumR f n + f n
theorem sumR_congr {f g : Nat → Int} : ∀ {n : Nat}, (∀ i, i < n → f i = g i) → sumR f n = sumR g n
  | 0, _ => rfl
  | n + 1, h => by rw [sumR, sumR, sumR_congr (fun i hi => h i (by omega)), h n (by omega)]
theorem sumR_add (f g : Nat → Int) : ∀ n, sumR (fun i => f i + g i) n = sumR f n + sumR g n
  | 0 => rfl
  | n + 1 => by rw [sumR, sumR, sumR, sumR_add f g n]; omega
theorem sumR_zero : ∀ n, sumR (fun _ => 0) n = 0
  | 0 => rfl
  | n + 1 => by rw [sumR, sumR_zero n]; rfl
theorem sumR_mul (c : Int) (f : Nat → Int) : ∀ n, sumR (fun i => c * f i) n = c * sumR f n
  | 0 => by simp [sumR]
  | n + 1 => by rw [sumR, sumR, sumR_mul c f n, Int.mul_add]
theorem sumR_one (c : Int) (j : Nat) : ∀ n, sumR (fun i => if i = j then c else 0) n = if j < n then c else 0
  | 0 => by simp [sumR]
  | n + 1 => by
    rw [sumR, sumR_one c j n]
    by_cases h : n = j
    · subst h; rw [if_neg (by omega), if_pos rfl, if_pos (by omega)]; omega
    · rw [if_neg h]
      by_cases h2 : j < n
      · rw [if_pos h2, if_pos (by omega)]; omega
      · rw [if_neg h2, if_neg (by omega)]; rfl
theorem sumR_swap (f : Nat → Nat → Int) (m : Nat) : ∀ n, sumR (fun i => sumR (f i) m) n = sumR (fun k => sumR (fun i => f i k) n) m
  | 0 => by rw [sumR]; exact (sumR_zero m).symm
  | n + 1 => by
    rw [sumR, sumR_swap f m n, ← sumR_add]
    exact sumR_congr fun k _ => rfl
theorem sumR_nn {f : Nat → Int} : ∀ {n : Nat}, (∀ i, i < n → 0 ≤ f i) → 0 ≤ sumR f n
  | 0, _ => Int.le_refl _
  | n + 1, h => by
    have h1 := sumR_nn (n := n) fun i hi => h i (by omega)
    have h2 := h n (by omega)
    rw [sumR]; omega
theorem sumR_le {f g : Nat → Int} : ∀ {n : Nat}, (∀ i, i < n → f i ≤ g i) → sumR f n ≤ sumR g n
  | 0, _ => Int.le_refl _
  | n + 1, h => by
    have h1 := sumR_le (n := n) fun i hi => h i (by omega)
    have h2 := h n (by omega)
    rw [sumR, sumR]; omega
theorem sumR_mono {f : Nat → Int} {n k : Nat} (h : ∀ i, i < n → 0 ≤ f i) (hk : k ≤ n) : sumR f k ≤ sumR f n := by
  induction n with
  | zero => have : k = 0 := by omega
            subst this; exact Int.le_refl _
  | succ n ih =>
    rcases Nat.lt_or_ge k (n + 1) with h2 | h2
    · have h1 := ih (fun i hi => h i (by omega)) (by omega)
      have h3 := h n (by omega)
      rw [sumR]; omega
    · have : k = n + 1 := by omega
      subst this; exact Int.le_refl _
theorem sumR_const (c : Int) : ∀ n : Nat, sumR (fun _ => c) n = n * c
  | 0 => by simp [sumR]
  | n + 1 => by
    rw [sumR, sumR_const c n, Int.natCast_succ, Int.add_mul]; omega
def cntN (l : List Int) (x : Nat) : Int := ((l.filter fun y => decide (y = (x : Int))).length : Int)
theorem cntN_nil (x : Nat) : cntN [] x = 0 := rfl
theorem cntN_cons (i : Nat) (l : List Int) (x : Nat) : cntN ((i : Int) :: l) x = (if x = i then 1 else 0) + cntN l x := by
  unfold cntN
  by_cases h : x = i
  · subst h; simp; omega
  · rw [List.filter_cons_of_neg (by simp; omega), if_neg h]; omega
theorem cntN_nn (l : List Int) (x : Nat) : 0 ≤ cntN l x := by unfold cntN; omega
theorem cntN_none {l : List Int} {x : Nat} (h : ∀ y ∈ l, y ≠ (x : Int)) : cntN l x = 0 := by
  unfold cntN
  rw [List.filter_eq_nil_iff.2 (fun y hy => by simpa using h y hy)]
  rfl
theorem pth_succ (m : Msh) (k : Nat) {f : Int} (h : 0 ≤ f) : pth m (k + 1) f = f :: pth m k (runF m f.toNat) := by
  rw [pth, if_neg (by omega)]
theorem pth_low (m : Msh) : ∀ (k : Nat) (i : Nat), ∀ y ∈ pth m k (i : Int), 0 ≤ y ∧ sumF m y.toNat ≤ sumF m i
  | 0, i, y, h => by simp [pth] at h
  | k + 1, i, y, h => by
    rw [pth_succ m k (by omega), Int.toNat_natCast] at h
    rcases List.mem_cons.1 h with rfl | h
    · exact ⟨by omega, by rw [Int.toNat_natCast]; exact Int.le_refl _⟩
    · rcases runF_bd m i with e | e | ⟨e1, e2, e3⟩
      · rw [pth_neg m k (by omega)] at h; cases h
      · rw [pth_neg m k (by omega)] at h; cases h
      · have ht : runF m i = ((runF m i).toNat : Int) := by omega
        rw [ht] at h
        obtain ⟨h1, h2⟩ := pth_low m k _ y h
        exact ⟨h1, by omega⟩
theorem cnt_one (m : Msh) : ∀ (k : Nat) (i x : Nat), cntN (pth m k (i : Int)) x ≤ 1
  | 0, i, x => by rw [pth]; exact Int.zero_le_ofNat 1
  | k + 1, i, x => by
    rw [pth_succ m k (by omega), Int.toNat_natCast, cntN_cons]
    rcases runF_bd m i with e | e | ⟨e1, e2, e3⟩
    · rw [pth_neg m k (by omega), cntN_nil]; split <;> omega
    · rw [pth_neg m k (by omega), cntN_nil]; split <;> omega
    · have ht : runF m i = ((runF m i).toNat : Int) := by omega
      rw [ht]
      have h1 := cnt_one m k (runF m i).toNat x
      by_cases hx : x = i
      · subst hx
        rw [if_pos rfl, cntN_none (fun y hy e => ?_)]
        · omega
        · have := (pth_low m k _ y hy).2
          rw [e, Int.toNat_natCast] at this
          omega
      · rw [if_neg hx]; omega
theorem cnt_step (m : Msh) : ∀ (k : Nat) (i : Nat), i < m.f.length → rnk m i < k → ∀ x : Nat, cntN (pth m k (i : Int)) x = (if x = i then 1 else 0) + sumR (fun y => if runF m y = (x : Int) then cntN (pth m k (i : Int)) y else 0) m.f.length
  | 0, i, _, hr, x => by omega
  | k + 1, i, hi, hr, x => by
    rw [pth_succ m k (by omega), Int.toNat_natCast]
    have e0 : sumR (fun y => if runF m y = (x : Int) then cntN ((i : Int) :: pth m k (runF m i)) y else 0) m.f.length = (if runF m i = (x : Int) then 1 else 0) + sumR (fun y => if runF m y = (x : Int) then cntN (pth m k (runF m i)) y else 0) m.f.length := by
      have h1 : ∀ y, (if runF m y = (x : Int) then cntN ((i : Int) :: pth m k (runF m i)) y else 0) = (if y = i then (if runF m i = (x : Int) then 1 else 0) else 0) + (if runF m y = (x : Int) then cntN (pth m k (runF m i)) y else 0) := by
        intro y
        rw [cntN_cons]
        by_cases hy : y = i
        · subst hy
          simp only [if_true]
          split <;> omega
        · simp only [if_neg hy]
          split <;> omega
      simp only [h1]
      rw [sumR_add, sumR_one, if_pos hi]
    rw [e0, cntN_cons]
    rcases runF_bd m i with e | e | ⟨e1, e2, e3⟩
    · rw [pth_neg m k (by omega)]
      simp only [cntN_nil]
      have : sumR (fun y => if runF m y = (x : Int) then (0 : Int) else 0) m.f.length = 0 := by
        rw [sumR_congr (g := fun _ => 0) (fun y _ => by split <;> rfl), sumR_zero]
      rw [this, if_neg (show ¬ runF m i = (x : Int) by omega)]
      omega
    · rw [pth_neg m k (by omega)]
      simp only [cntN_nil]
      have : sumR (fun y => if runF m y = (x : Int) then (0 : Int) else 0) m.f.length = 0 := by
        rw [sumR_congr (g := fun _ => 0) (fun y _ => by split <;> rfl), sumR_zero]
      rw [this, if_neg (show ¬ runF m i = (x : Int) by omega)]
      omega
    · have ht : runF m i = ((runF m i).toNat : Int) := by omega
      have hlt : (runF m i).toNat < m.f.length := by omega
      have hr2 : rnk m (runF m i).toNat < k := by
        have := rnk_lt hlt e3
        omega
      have ih := cnt_step m k (runF m i).toNat hlt hr2 x
      rw [← ht] at ih
      rw [ih]
      have : (if x = (runF m i).toNat then (1 : Int) else 0) = if runF m i = (x : Int) then 1 else 0 := by
        by_cases h : runF m i = (x : Int)
        · rw [if_pos h, if_pos (by omega)]
        · rw [if_neg h, if_neg (by omega)]
      rw [this]
def twF (m : Msh) (i : Nat) : Int := turnT (triF m (fce m i))
def gatF (m : Msh) (x : Nat) : Int := sumR (fun j => twF m j * cntN (pathL m (j : Int)) x) m.f.length
def totF (m : Msh) : Int := sumR (twF m) m.f.length
theorem gat_eq (m : Msh) {x : Nat} (hx : x < m.f.length) : gatF m x = twF m x + sumR (fun y => if runF m y = (x : Int) then gatF m y else 0) m.f.length := by
  unfold gatF
  have h1 : ∀ j, j < m.f.length → twF m j * cntN (pathL m (j : Int)) x = (if j = x then twF m x else 0) + sumR (fun y => if runF m y = (x : Int) then twF m j * cntN (pathL m (j : Int)) y else 0) m.f.length := by
    intro j hj
    have h := cnt_step m m.f.length j hj (rnk_le hj) x
    unfold pathL
    rw [h, Int.mul_add]
    congr 1
    · by_cases e : x = j
      · subst e; simp
      · rw [if_neg e, if_neg (Ne.symm e)]; simp
    · rw [← sumR_mul]
      exact sumR_congr fun y _ => by split <;> simp
  rw [sumR_congr h1, sumR_add, sumR_one, if_pos hx, sumR_swap]
  congr 1
  refine sumR_congr fun y _ => ?_
  split
  · rfl
  · exact sumR_zero _
theorem tw_nn {m : Msh} (hv : validM m = true) {i : Nat} (hi : i < m.f.length) : 0 ≤ twF m i ∧ twF m i ≤ 2251799813685248 := by
  have h := (valid_f hv hi).2
  have ht := valid_T hv hi
  unfold okT at ht
  simp only [Bool.and_eq_true] at ht
  have := turn_bd ht.1.1 ht.1.2 ht.2
  unfold twF
  unfold turnT turnP at *
  omega
theorem tot_bd {m : Msh} (hv : validM m = true) (hm : m.f.length ≤ 100) : 0 ≤ totF m ∧ totF m ≤ 225179981368524800 := by
  refine ⟨sumR_nn fun i hi => (tw_nn hv hi).1, ?_⟩
  have h1 := sumR_le (f := twF m) (g := fun _ => 2251799813685248) (n := m.f.length) fun i hi => (tw_nn hv hi).2
  rw [sumR_const] at h1
  unfold totF
  omega
theorem gat_bd {m : Msh} (hv : validM m = true) (x : Nat) : 0 ≤ gatF m x ∧ gatF m x ≤ totF m := by
  refine ⟨sumR_nn fun i hi => Int.mul_nonneg (tw_nn hv hi).1 (cntN_nn _ _), sumR_le fun i hi => ?_⟩
  have h1 := cnt_one m m.f.length i x
  have h2 := (tw_nn hv hi).1
  have h3 := Int.mul_le_mul_of_nonneg_left (show cntN (pathL m (i : Int)) x ≤ 1 from h1) h2
  omega
end Go.Gv

set_option linter.unusedSimpArgs false
namespace Go.Gv
def lsum (f : Nat → Int) : List Nat → Int
  | [] => 0
  | x :: r => f x + lsum f r
theorem lsum_app (f : Nat → Int) : ∀ l l' : List Nat, lsum f (l ++ l') = lsum f l + lsum f l'
  | [], l' => by simp [lsum]
  | x :: r, l' => by rw [List.cons_append, lsum, lsum, lsum_app f r l']; omega
theorem lsum_perm {f : Nat → Int} {l l' : List Nat} (h : l.Perm l') : lsum f l = lsum f l' := by
  induction h with
  | nil => rfl
  | cons x _ ih => rw [lsum, lsum, ih]
  | swap x y l => simp only [lsum]; omega
  | trans _ _ h1 h2 => rw [h1, h2]
theorem lsum_range (f : Nat → Int) : ∀ n, lsum f (List.range n) = sumR f n
  | 0 => rfl
  | n + 1 => by rw [List.range_succ, lsum_app, lsum_range f n, sumR]; simp [lsum]
theorem lsum_zero {f : Nat → Int} : ∀ {l : List Nat}, (∀ y ∈ l, f y = 0) → lsum f l = 0
  | [], _ => rfl
  | x :: r, h => by rw [lsum, h x (List.mem_cons_self ..), lsum_zero (fun y hy => h y (List.mem_cons_of_mem _ hy))]; rfl
theorem lsum_nn {f : Nat → Int} : ∀ {l : List Nat}, (∀ y ∈ l, 0 ≤ f y) → 0 ≤ lsum f l
  | [], _ => Int.le_refl _
  | x :: r, h => by
    have h1 := h x (List.mem_cons_self ..)
    have h2 := lsum_nn (l := r) (fun y hy => h y (List.mem_cons_of_mem _ hy))
    rw [lsum]; omega
def giv (m : Msh) (x y : Nat) : Int := if runF m y = (x : Int) then gatF m y else 0
def accP (m : Msh) (P : List Nat) (x : Nat) : Int := twF m x + lsum (giv m x) P
theorem accP_nil (m : Msh) (x : Nat) : accP m [] x = twF m x := by simp [accP, lsum]
theorem accP_snoc (m : Msh) (P : List Nat) (i x : Nat) : accP m (P ++ [i]) x = accP m P x + giv m x i := by
  unfold accP
  rw [lsum_app]
  simp only [lsum]
  omega
theorem accP_all {m : Msh} {P : List Nat} (hp : P.Perm (List.range m.f.length)) {x : Nat} (hx : x < m.f.length) : accP m P x = gatF m x := by
  unfold accP
  rw [lsum_perm hp, lsum_range, gat_eq m hx]
  rfl
structure Ord (m : Msh) (P : List Nat) : Prop where
  perm : P.Perm (List.range m.f.length)
  srt : P.Pairwise fun a b => sumF m b ≤ sumF m a
theorem Ord.len {m : Msh} {P : List Nat} (h : Ord m P) : P.length = m.f.length := by
  have := h.perm.length_eq
  simpa using this
theorem Ord.lt {m : Msh} {P : List Nat} (h : Ord m P) {p : Nat} (hp : p < P.length) : P[p] < m.f.length := by
  have := h.perm.mem_iff.1 (List.getElem_mem hp)
  simpa using this
theorem accP_at {m : Msh} {P : List Nat} (h : Ord m P) {p : Nat} (hp : p < P.length) : accP m (P.take p) P[p] = gatF m P[p] := by
  have hx := h.lt hp
  rw [← accP_all h.perm hx]
  unfold accP
  congr 1
  have e : lsum (giv m P[p]) P = lsum (giv m P[p]) (P.take p) + lsum (giv m P[p]) (P.drop p) := by rw [← lsum_app, List.take_append_drop]
  have e2 : lsum (giv m P[p]) (P.drop p) = 0 := by
    refine lsum_zero fun y hy => ?_
    obtain ⟨j, hj, rfl⟩ := List.getElem_of_mem hy
    rw [List.getElem_drop]
    simp only [List.length_drop] at hj
    have hs : sumF m P[p + j] ≤ sumF m P[p] := by
      rcases Nat.eq_zero_or_pos j with rfl | h0
      · exact Int.le_refl _
      · exact List.pairwise_iff_getElem.1 h.srt p (p + j) hp (by omega) (by omega)
    unfold giv
    rw [if_neg]
    intro e3
    rcases runF_bd m P[p + j] with e | e | ⟨e1, e2, e3'⟩
    · omega
    · omega
    · have : (runF m P[p + j]).toNat = P[p] := by omega
      rw [this] at e3'
      omega
  omega
theorem giv_nn {m : Msh} (hv : validM m = true) (x y : Nat) : 0 ≤ giv m x y := by
  unfold giv
  split
  · exact (gat_bd hv y).1
  · exact Int.le_refl _
theorem accP_bd {m : Msh} (hv : validM m = true) {P : List Nat} (h : Ord m P) {p : Nat} {x : Nat} (hx : x < m.f.length) : 0 ≤ accP m (P.take p) x ∧ accP m (P.take p) x ≤ totF m := by
  have h1 := lsum_nn (f := giv m x) (l := P.take p) fun y _ => giv_nn hv x y
  have h2 := lsum_nn (f := giv m x) (l := P.drop p) fun y _ => giv_nn hv x y
  have e : lsum (giv m x) P = lsum (giv m x) (P.take p) + lsum (giv m x) (P.drop p) := by rw [← lsum_app, List.take_append_drop]
  have e2 := accP_all h.perm hx
  have h3 := (gat_bd hv x).2
  have h4 := (tw_nn hv hx).1
  unfold accP at *
  omega
def natR (l : List Nat) : List (List D) := l.map fun (i : Nat) => [D.int .i64 ((i : Nat) : Int)]
def acR (m : Msh) (P : List Nat) : List Int := (List.range m.f.length).map (accP m P)
theorem acR_len (m : Msh) (P : List Nat) : (acR m P).length = m.f.length := by simp [acR]
theorem acR_get (m : Msh) (P : List Nat) {x : Nat} (hx : x < m.f.length) : (acR m P)[x]? = some (accP m P x) := by simp [acR, hx]
theorem acR_stay {m : Msh} {P : List Nat} {i : Nat} (h : runF m i < 0) : acR m (P ++ [i]) = acR m P := by
  unfold acR
  refine List.map_congr_left fun x _ => ?_
  rw [accP_snoc]
  unfold giv
  rw [if_neg (by omega)]
  omega
theorem acR_give {m : Msh} {P : List Nat} {i t : Nat} (h : runF m i = (t : Int)) : acR m (P ++ [i]) = (acR m P).set t (accP m P t + gatF m i) := by
  apply List.ext_getElem?
  intro x
  rw [List.getElem?_set]
  unfold acR
  simp only [List.getElem?_map, List.length_map, List.length_range]
  by_cases hx : x < m.f.length
  · by_cases ht : t = x
    · subst ht
      simp [hx, accP_snoc, giv, h]
    · simp [hx, ht, accP_snoc, giv, h]
      omega
  · by_cases ht : t = x
    · subst ht; simp [hx]
    · simp [hx, ht]
theorem acR_nil (m : Msh) : acR m [] = (List.range m.f.length).map (twF m) := by
  unfold acR
  exact List.map_congr_left fun x _ => accP_nil m x
def gatL (m : Msh) : List Int := (List.range m.f.length).map (gatF m)
theorem acR_all {m : Msh} {P : List Nat} (hp : P.Perm (List.range m.f.length)) : acR m P = gatL m := by
  unfold acR gatL
  exact List.map_congr_left fun x hx => accP_all hp (List.mem_range.1 hx)
def refA (m : Msh) (i : Nat) (l : List Int) (x : Nat) : Int := sumR (fun j => twF m j * cntN (pathL m (j : Int)) x) i + twF m i * cntN l x
def refR (m : Msh) (i : Nat) (l : List Int) : List Int := (List.range m.f.length).map (refA m i l)
theorem refR_len (m : Msh) (i : Nat) (l : List Int) : (refR m i l).length = m.f.length := by simp [refR]
theorem cntN_snoc (l : List Int) (t x : Nat) : cntN (l ++ [(t : Int)]) x = cntN l x + if x = t then 1 else 0 := by
  unfold cntN
  rw [List.filter_append]
  by_cases h : x = t
  · subst h; simp
  · rw [List.filter_cons_of_neg (by simp; omega), if_neg h, List.filter_nil, List.append_nil]; omega
theorem refR_zero (m : Msh) : refR m 0 [] = List.replicate m.f.length 0 := by
  unfold refR
  rw [List.eq_replicate_iff]
  refine ⟨by simp, fun b hb => ?_⟩
  obtain ⟨x, _, rfl⟩ := List.mem_map.1 hb
  simp [refA, sumR, cntN_nil]
theorem refR_next (m : Msh) (i : Nat) : refR m i (pathL m (i : Int)) = refR m (i + 1) [] := by
  unfold refR
  refine List.map_congr_left fun x _ => ?_
  unfold refA
  rw [sumR, cntN_nil]
  omega
theorem refR_all (m : Msh) : refR m m.f.length [] = gatL m := by
  unfold refR gatL
  refine List.map_congr_left fun x _ => ?_
  unfold refA gatF
  rw [cntN_nil]
  omega
theorem refR_get (m : Msh) (i : Nat) (l : List Int) {x : Nat} (hx : x < m.f.length) : (refR m i l)[x]? = some (refA m i l x) := by simp [refR, hx]
theorem refR_set (m : Msh) (i : Nat) (l : List Int) (t : Nat) : refR m i (l ++ [(t : Int)]) = (refR m i l).set t (refA m i l t + twF m i) := by
  apply List.ext_getElem?
  intro x
  rw [List.getElem?_set]
  unfold refR
  simp only [List.getElem?_map, List.length_map, List.length_range]
  by_cases hx : x < m.f.length
  · by_cases ht : t = x
    · subst ht
      simp [hx, refA, cntN_snoc, Int.mul_add]
      omega
    · simp [hx, ht, refA, cntN_snoc, show ¬ x = t from fun e => ht e.symm]
  · by_cases ht : t = x
    · subst ht; simp [hx]
    · simp [hx, ht]
theorem cnt_take (l : List Int) (k x : Nat) : cntN (l.take k) x ≤ cntN l x := by
  unfold cntN
  have h : ((l.take k).filter fun y => decide (y = (x : Int))).length ≤ (l.filter fun y => decide (y = (x : Int))).length := (List.Sublist.filter _ (List.take_sublist k l)).length_le
  omega
theorem refA_bd {m : Msh} (hv : validM m = true) {i : Nat} (hi : i < m.f.length) (k x : Nat) : 0 ≤ refA m i ((pathL m (i : Int)).take k) x ∧ refA m i ((pathL m (i : Int)).take k) x ≤ totF m := by
  have h0 : ∀ j, j < m.f.length → 0 ≤ twF m j * cntN (pathL m (j : Int)) x := fun j hj => Int.mul_nonneg (tw_nn hv hj).1 (cntN_nn _ _)
  have h1 := sumR_nn (f := fun j => twF m j * cntN (pathL m (j : Int)) x) (n := i) fun j hj => h0 j (by omega)
  have h2 := Int.mul_nonneg (tw_nn hv hi).1 (cntN_nn ((pathL m (i : Int)).take k) x)
  have h3 := Int.mul_le_mul_of_nonneg_left (cnt_take (pathL m (i : Int)) k x) (tw_nn hv hi).1
  have h4 := sumR_mono (f := fun j => twF m j * cntN (pathL m (j : Int)) x) (n := m.f.length) (k := i + 1) h0 (by omega)
  have h5 := (gat_bd hv x).2
  unfold refA
  unfold gatF at h5
  rw [sumR] at h4
  omega
end Go.Gv

namespace Go.Gv
open Go.Sort Go.Proofs Go.Shelf
theorem Bel.grown {w w' : World} (h : Bel w w') : ∃ q os, w' = grow (w.drewN q) os := by
  refine ⟨w'.drawn - w.drawn, w'.heap.extract w.heap.size w'.heap.size, ?_⟩
  have hh : w'.heap = w.heap ++ w'.heap.extract w.heap.size w'.heap.size := by
    apply Array.ext
    · have := h.size
      simp only [Array.size_append, Array.size_extract]
      omega
    · intro i h1 h2
      by_cases hi : i < w.heap.size
      · rw [Array.getElem_append_left hi]
        have := h.block i hi
        rw [Array.getElem?_eq_getElem h1, Array.getElem?_eq_getElem hi] at this
        exact Option.some.inj this
      · rw [Array.getElem_append_right (by omega), Array.getElem_extract]
        congr 1
        omega
  have hd := h.drawn
  obtain ⟨h1, h2, h3, h4, h5, h6⟩ := h
  cases w
  cases w'
  simp only [grow, World.drewN] at *
  subst h1 h2 h3
  congr 1
  omega
theorem Bel.sorted {α : Type} [Inhabited α] {enc : α → Value} {w : World} {blk off n : Nat} {d : Array α} {os : Array Obj} {p : Addr} {v : Value} (hp : p.block ≠ blk) (h : w.cell? p = some v) : (sortWorld enc w blk off n d os).cell? p = some v := by
  have hb : p.block < w.heap.size := by
    unfold World.cell? at h
    cases e : w.heap[p.block]? with
    | none => rw [e] at h; cases h
    | some _ => exact (Array.getElem?_eq_some_iff.1 e).1
  have e : (sortWorld enc w blk off n d os).heap[p.block]? = w.heap[p.block]? := by
    simp only [sortWorld, grow, putRow, mapBlock, Sort.ahead]
    rw [Array.getElem?_append_left (by simpa using hb), Array.getElem?_modify, if_neg (Ne.symm hp)]
  unfold World.cell? at h ⊢
  rw [e]
  exact h
section
variable {P : Program} {F : Fid} {α : Type} [Inhabited α]
theorem runsC_sortFunc {ρ : Ren} (Ly : SlLaysF.n6 P ρ) (enc : α → Value) (encD : α → D) (h1 : OneCell enc) (hflat : ∀ M x u, RepC F M (encD x) u → u = enc x) (hrep : ∀ M x, RepC F M (encD x) (enc x)) (cf : α → α → Int) (hO : SWO (ltOf cf)) {g cg : Nat} (hg : ∀ f, F g = some f → f = ρ.f 6) {cs : List D}
    (hn : ∀ f, F cg = some f → named P f = true) (hcl : ∀ x y, runsC P F cg (encD x :: encD y :: cs) (.int .i64 (cf x y)) []) (d : Array α) (hz : d.size < 2 ^ 62) :
    runsC P F g [.own 1 (rowsOf encD d), .fn cg cs] .any [.own 1 (rowsOf encD (pdq (ltOf cf) d 0 d.size (Lib.bitLen d.size) true true)), .nilp] := by
  refine ⟨trivial, fun f hf => ⟨rfl, ?_⟩⟩
  obtain rfl := hg f hf
  have hp := pdq_sorts (ltOf cf) hO d 0 d.size (Lib.bitLen d.size) true true (Nat.zero_le _) (Nat.le_refl _) (Or.inl rfl)
  have hsz : (pdq (ltOf cf) d 0 d.size (Lib.bitLen d.size) true true).size = d.size := hp.1.1
  refine runsS_of_sort enc encD hflat hrep d _ hsz _ (fun h M w vs A hh r => ?_) (fun M w vs blk off cap hh hM r hH hb => ?_)
  · simp only [RepL, RepC] at r
    obtain ⟨fv, vs', rfl, ⟨fi, us, hfi, rfl, hus⟩, rfl⟩ := r
    refine (AnyF.slices_SortFunc_none { Ly with } A 0 _ w).mono ?_
    rintro e w' ⟨rfl, rfl⟩
    exact ⟨rfl, 0, #[], by simp⟩
  · simp only [RepL, RepC] at r
    obtain ⟨fv, vs', rfl, ⟨fi, us, hfi, rfl, hus⟩, rfl⟩ := r
    have hcmp : CmpLays1 P fi us.toArray enc cf blk off d.size w := by
      intro m os dk hdk x y
      have hr := (hcl x y).2 fi hfi M (sortWorld enc w blk off m dk os) (enc x :: enc y :: us) (fun p v hpv => Bel.sorted (fun e => by rw [hM p e] at hpv; cases hpv) (hh p v hpv)) (by
        simp only [RepL]
        exact ⟨_, _, rfl, hrep _ _, _, _, rfl, hrep _ _, hus⟩)
      have e : #[enc x, enc y] ++ us.toArray = (enc x :: enc y :: us).toArray := by simp
      rw [e]
      refine hr.mono ?_
      rintro e w' ⟨v, M', rfl, hbel, _, _, _, hv⟩
      simp only [RepC] at hv
      subst hv
      exact ⟨rfl, hbel.grown⟩
    exact Any.slices_SortFunc_eq Ly enc h1 cf hO fi us.toArray blk off cap d w (callFunc_named (hn fi hfi)) hcmp hH hb (by omega)
end
end Go.Gv

set_option linter.unusedSimpArgs false
namespace Go.Gv
open Go.Sort Go.Proofs Go.Shelf
section
variable {m : Msh}
def cfG (m : Msh) {N : Nat} (a b : Fin N) : Int := sumF m b.1 - sumF m a.1
theorem cfG_swo (m : Msh) (N : Nat) : SWO (ltOf (cfG m (N := N))) where
  irrefl x := by simp [ltOf, cfG]
  trans x y z h1 h2 := by
    have g1 : cfG m x y < 0 := of_decide_eq_true h1
    have g2 : cfG m y z < 0 := of_decide_eq_true h2
    refine decide_eq_true ?_
    unfold cfG at *
    omega
  ntrans x y z h1 h2 := by
    have g1 : ¬ cfG m x y < 0 := of_decide_eq_false h1
    have g2 : ¬ cfG m y z < 0 := of_decide_eq_false h2
    refine decide_eq_false ?_
    unfold cfG at *
    omega
def dG (N : Nat) : Array (Fin N) := (List.finRange N).toArray
theorem dG_size (N : Nat) : (dG N).size = N := by simp [dG]
def oG (m : Msh) (N : Nat) [Inhabited (Fin N)] : List Nat := (pdq (ltOf (cfG m)) (dG N) 0 (dG N).size (Lib.bitLen (dG N).size) true true).toList.map fun i => i.1
theorem oG_ord (m : Msh) [Inhabited (Fin m.f.length)] : Ord m (oG m m.f.length) := by
  have h := pdq_sorts (ltOf (cfG m)) (cfG_swo m m.f.length) (dG m.f.length) 0 (dG m.f.length).size (Lib.bitLen (dG m.f.length).size) true true (Nat.zero_le _) (Nat.le_refl _) (Or.inl rfl)
  obtain ⟨⟨hs, _, hp⟩, hsrt⟩ := h
  unfold oG
  generalize hP : pdq (ltOf (cfG m)) (dG m.f.length) 0 (dG m.f.length).size (Lib.bitLen (dG m.f.length).size) true true = d' at *
  have e1 : d'.extract 0 (dG m.f.length).size = d' := by rw [← hs]; exact Array.extract_size
  have e2 : (dG m.f.length).extract 0 (dG m.f.length).size = dG m.f.length := Array.extract_size
  rw [e1, e2] at hp
  refine ⟨?_, ?_⟩
  · have h1 := hp.map (fun i : Fin m.f.length => i.1)
    have h2 : (dG m.f.length).toList.map (fun i : Fin m.f.length => i.1) = List.range m.f.length := by
      unfold dG
      exact List.ext_getElem (by simp) (by intro i h1 h2; simp)
    rw [h2] at h1
    exact h1
  · rw [List.pairwise_map, List.pairwise_iff_getElem]
    intro i j hi hj hij
    have hj' : j < d'.size := by simpa using hj
    have hi' : i < d'.size := by simpa using hi
    have h1 := hsrt i j (Nat.zero_le _) hij (by rw [← hs]; exact hj')
    rw [getElem!_pos d' j hj', getElem!_pos d' i hi'] at h1
    have g1 : ¬ cfG m d'[j] d'[i] < 0 := of_decide_eq_false h1
    unfold cfG at g1
    simp only [Array.getElem_toList]
    omega
end
end Go.Gv

set_option linter.unusedSimpArgs false
namespace Go.Gv
open Go.Sort Go.Proofs Go.Shelf
section
variable {P : Program} {F : Fid}
theorem runsC_order {ρ : Ren} (Ly : SlLaysF.n6 P ρ) (m : Msh) (h0 : 0 < m.f.length) (hl : m.f.length < 2 ^ 62) {g cg : Nat} (hg : ∀ f, F g = some f → f = ρ.f 6) {cs : List D}
    (hn : ∀ f, F cg = some f → named P f = true) (hcl : ∀ a b : Nat, a < m.f.length → b < m.f.length → runsC P F cg (.int .i64 a :: .int .i64 b :: cs) (.int .i64 (sumF m b - sumF m a)) []) :
    ∃ Q, Ord m Q ∧ runsC P F g [.own 1 (natR (List.range m.f.length)), .fn cg cs] .any [.own 1 (natR Q), .nilp] := by
  haveI : Inhabited (Fin m.f.length) := ⟨⟨0, h0⟩⟩
  refine ⟨oG m m.f.length, oG_ord m, ?_⟩
  have k := runsC_sortFunc (α := Fin m.f.length) Ly (fun i => .int .i64 (i.1 : Int)) (fun i => D.int .i64 (i.1 : Int)) (fun _ => rfl) (fun M x u h => by simpa [RepC] using h) (fun M x => by simp [RepC]) (cfG m) (cfG_swo m _) hg hn (fun x y => hcl x.1 y.1 x.2 y.2) (dG m.f.length) (by rw [dG_size]; exact hl)
  have e1 : rowsOf (fun i : Fin m.f.length => D.int .i64 (i.1 : Int)) (dG m.f.length) = natR (List.range m.f.length) := by
    unfold rowsOf natR dG
    exact List.ext_getElem (by simp) (by intro i h1 h2; simp)
  have e2 : rowsOf (fun i : Fin m.f.length => D.int .i64 (i.1 : Int)) (pdq (ltOf (cfG m)) (dG m.f.length) 0 (dG m.f.length).size (Lib.bitLen (dG m.f.length).size) true true) = natR (oG m m.f.length) := by
    unfold rowsOf natR oG
    rw [List.map_map]
    rfl
  rw [e1, e2] at k
  exact k
theorem runsC_sort_nil {g : Nat} {ds : List D} (h : runsC P F g (.sl [] :: ds) (.tup []) []) : runsC P F g (.own 1 [] :: ds) .any [.own 1 [], .nilp] := by
  refine ⟨trivial, fun f hf => ⟨rfl, ?_⟩⟩
  intro M w vs hh r
  have key : ∀ (A : Option Addr) (cap : Nat), Calls P f (.slice A 0 cap :: vs).toArray w (fun e w' => e = .returned (.tuple #[]) ∧ Bel w w') := by
    intro A cap
    refine (h.2 f hf M w (.slice A 0 cap :: vs) hh (by
      simp only [RepL, RepC]
      exact ⟨_, _, rfl, ⟨A, cap, [], 0, rfl, Nat.zero_le _, rfl, by simp, by simp⟩, r⟩)).mono ?_
    rintro e w' ⟨v, M', rfl, hb, _, _, _, hv⟩
    simp only [RepC, RepL] at hv
    refine ⟨?_, hb⟩
    obtain ⟨us, rfl, hu⟩ := hv
    subst hu
    rfl
  refine ⟨fun _ A => key A 0, fun b o T us cap hM hb hH _ _ _ _ => ?_⟩
  refine (key (some ⟨b, o, none⟩) cap).mono ?_
  rintro e w' ⟨he, hbel⟩
  refine ⟨he, us, ?_, rfl, fun i r off d h1 => by simp at h1, ?_⟩
  · rw [hbel.block b hb]; exact hH
  · exact Ch.of_below hbel _
end
end Go.Gv

set_option linter.unusedSimpArgs false
namespace Go.Gv
open Go.Lib
variable {C : CC} (hC : Closed prog C)
include hC
theorem qSize_c (n : Nat) (h : n < 9223372036854775808) : C 86 [.int .i64 n] (.int .u64 (n : Int)) [] := by
  refine start hC (nf := N86_ref03_Size) rfl rfl ?_
  simp [N86_ref03_Size, wrapN n (by omega)]
  refine brB_of (fun h1 => ?_) (fun h1 => ?_) <;> simp at h1 <;> simp [h1, wrapN n (by omega)]
  omega
theorem qLess_c (a b c d : Nat) : C 87 [.agg [.int .u64 a, .int .u64 b], .agg [.int .u64 c, .int .u64 d]] (.bool (decide (a < c ∨ (a = c ∧ b < d)))) [] := by
  refine start hC (nf := N87_ref03_Less) rfl rfl ?_
  simp [N87_ref03_Less]
  refine brB_of (fun h => ?_) (fun h => ?_) <;> simp at h <;> simp [h]
  have h3 : ¬ a < c := by omega
  refine brB_of (fun h2 => ?_) (fun h2 => ?_) <;> simp at h2 <;> simp [h2, h3]
  · have h4 : a = c := by omega
    simp [h4]
  · omega
theorem qMinus_c (a b c d p q : Nat) (ha : a < 18446744073709551616) (hb : b < 18446744073709551616) (hd : d < 18446744073709551616) (hq : q < 18446744073709551616) (h : p * 18446744073709551616 + q + (c * 18446744073709551616 + d) = a * 18446744073709551616 + b) : C 95 [.agg [.int .u64 a, .int .u64 b], .agg [.int .u64 c, .int .u64 d]] (.agg [.int .u64 p, .int .u64 q]) [] := by
  refine start hC (nf := N95_ref03_Minus) rfl rfl ?_
  simp [N95_ref03_Minus]
  have e3 : IntKind.u64.wrap ((b : Int) - (d : Int)) = (q : Int) := uw (by omega) hq
  refine brB_of (fun h1 => ?_) (fun h1 => ?_) <;> simp at h1 <;> simp [h1, e3]
  · have e1 : IntKind.u64.wrap ((a : Int) - (c : Int)) = ((p + 1 : Nat) : Int) := uw (by omega) (by omega)
    rw [e1]
    exact uw (by omega) (by omega)
  · exact uw (by omega) (by omega)
theorem qMul_c (x y : Nat) (hx : x < 18446744073709551616) (hy : y < 18446744073709551616) : C 85 [.int .u64 x, .int .u64 y] (wideD (x * y)) [] := by
  refine start hC (nf := N85_ref03_Mul) rfl rfl ?_
  obtain ⟨bd, bt, bw, hhi⟩ := Lib.mul64_hi x y hx hy
  have ba := Lib.half_mul_le (a := x / 4294967296) (b := y / 4294967296) (by omega) (by omega)
  have bb := Lib.half_mul_le (a := x / 4294967296) (b := y % 4294967296) (by omega) (by omega)
  have bc := Lib.half_mul_le (a := x % 4294967296) (b := y / 4294967296) (by omega) (by omega)
  have hxy : x * y = x / 4294967296 * (y / 4294967296) * 18446744073709551616 + (x / 4294967296 * (y % 4294967296) + x % 4294967296 * (y / 4294967296)) * 4294967296 + x % 4294967296 * (y % 4294967296) := by
    have e1 : x = x / 4294967296 * 4294967296 + x % 4294967296 := by omega
    have e2 : y = y / 4294967296 * 4294967296 + y % 4294967296 := by omega
    generalize x / 4294967296 = ah at *
    generalize x % 4294967296 = al at *
    generalize y / 4294967296 = bh at *
    generalize y % 4294967296 = bl at *
    rw [e1, e2, Nat.add_mul, Nat.mul_add, Nat.mul_add, Nat.add_mul]
    rw [show ah * 4294967296 * (bh * 4294967296) = ah * bh * 18446744073709551616 by rw [Nat.mul_assoc, Nat.mul_left_comm 4294967296, ← Nat.mul_assoc]]
    rw [show ah * 4294967296 * bl = ah * bl * 4294967296 by rw [Nat.mul_right_comm], show al * (bh * 4294967296) = al * bh * 4294967296 by rw [Nat.mul_assoc]]
    omega
  obtain ⟨P, hP⟩ : ∃ P, P = x / 4294967296 * (y / 4294967296) := ⟨_, rfl⟩
  obtain ⟨Q, hQ⟩ : ∃ Q, Q = x / 4294967296 * (y % 4294967296) := ⟨_, rfl⟩
  obtain ⟨R, hR⟩ : ∃ R, R = x % 4294967296 * (y / 4294967296) := ⟨_, rfl⟩
  obtain ⟨L, hL⟩ : ∃ L, L = x % 4294967296 * (y % 4294967296) := ⟨_, rfl⟩
  obtain ⟨Z, hZ⟩ : ∃ Z, Z = x * y := ⟨_, rfl⟩
  rw [← hP, ← hQ, ← hR, ← hL, ← hZ] at hxy
  rw [← hP] at ba
  rw [← hQ] at bb
  rw [← hR] at bc
  rw [← hL] at bd
  obtain ⟨zh, hzh⟩ : ∃ zh, zh = Z / 18446744073709551616 := ⟨_, rfl⟩
  obtain ⟨zl, hzl⟩ : ∃ zl, zl = Z % 18446744073709551616 := ⟨_, rfl⟩
  rw [← hZ, wideD, ← hzh, ← hzl]
  simp [N85_ref03_Mul]
  simp only [maskN x hx, maskN y hy, shr32, mulN, ← hP, ← hQ, ← hR, ← hL, wrapN L bd, wrapN P (by omega), wrapN Q (by omega), wrapN R (by omega), addN]
  obtain ⟨M, hM⟩ : ∃ M, M = Q + L / 4294967296 := ⟨_, rfl⟩
  have hM1 : M < 18446744073709551616 := by omega
  rw [← hM, wrapN M hM1, shr32, maskN M hM1, maskN L bd, addN]
  obtain ⟨O, hO⟩ : ∃ O, O = R + M % 4294967296 := ⟨_, rfl⟩
  have hO1 : O < 18446744073709551616 := by omega
  obtain ⟨O2, hO2⟩ : ∃ O2, O2 = O * 4294967296 % 18446744073709551616 := ⟨_, rfl⟩
  simp only [addN R, ← hO, wrapN O hO1, shr32, shl32 O O2 hO2]
  rw [wrapN (P + M / 4294967296) (by omega), addN, addN, wrapN _ (by omega), wrapN _ (by omega)]
  clear hP hQ hR hL hZ bt bw hhi
  exact ⟨by omega, by omega⟩
theorem qMade_c (a b : Nat) : C 84 [.agg [.int .u64 a, .int .u64 b], .bool false] (.agg [.int .u64 a, .int .u64 b, .bool false]) [] := by
  refine start hC (nf := N84_ref03_Made) rfl rfl ?_
  simp [N84_ref03_Made]
  exact indW_of (by decide +kernel)
theorem qTimes_c (x y : Nat) (hx : x < 9223372036854775808) (hy : y < 9223372036854775808) : C 67 [.int .i64 x, .int .i64 y] (.agg [.int .u64 ((x * y / 18446744073709551616 : Nat) : Int), .int .u64 ((x * y % 18446744073709551616 : Nat) : Int), .bool false]) [] := by
  refine start hC (nf := N67_ref03_Times) rfl rfl ?_
  have h0 : ¬ (x : Int) < 0 := by omega
  have h1 : ¬ (y : Int) < 0 := by omega
  have hm := qMul_c hC x y (by omega) (by omega)
  rw [wideD] at hm
  obtain ⟨zh, hzh⟩ : ∃ zh, zh = x * y / 18446744073709551616 := ⟨_, rfl⟩
  obtain ⟨zl, hzl⟩ : ∃ zl, zl = x * y % 18446744073709551616 := ⟨_, rfl⟩
  rw [← hzh, ← hzl] at hm ⊢
  simp [N67_ref03_Times]
  refine callW_of (qSize_c hC x hx) (.inl rfl) ?_
  simp
  refine callW_of (qSize_c hC y hy) (.inl rfl) ?_
  simp
  refine callW_of hm (.inl rfl) ?_
  simp [h0, h1]
  refine callW_of (qMade_c hC zh zl) (.inl rfl) ?_
  simp
theorem qMadeT_c (a b : Nat) : C 84 [.agg [.int .u64 a, .int .u64 b], .bool true] (.agg [.int .u64 a, .int .u64 b, .bool (!(decide (a = 0) && decide (b = 0)))]) [] := by
  refine start hC (nf := N84_ref03_Made) rfl rfl ?_
  simp [N84_ref03_Made]
  exact indW_of (by decide +kernel)
theorem qOpp_c (a b : Nat) : C 338 [.agg [.int .u64 a, .int .u64 b, .bool false]] (.agg [.int .u64 a, .int .u64 b, .bool (!(decide (a = 0) && decide (b = 0)))]) [] := by
  have k := qMadeT_c hC a b
  obtain ⟨n, hn⟩ : ∃ n, n = !(decide (a = 0) && decide (b = 0)) := ⟨_, rfl⟩
  rw [← hn] at k ⊢
  refine start hC (nf := N338_ref03_Opposite) rfl rfl ?_
  simp [N338_ref03_Opposite]
  refine callW_of k (.inl rfl) ?_
  simp
theorem qPlus0_c (a b : Nat) (ha : a < 18446744073709551616) (hb : b < 18446744073709551616) : C 83 [.agg [.int .u64 a, .int .u64 b], .agg [.int .u64 0, .int .u64 0]] (.agg [.int .u64 a, .int .u64 b]) [] := by
  have w1 := wrapN a ha
  have w2 := wrapN b hb
  refine start hC (nf := N83_ref03_Plus) rfl rfl ?_
  simp [N83_ref03_Plus, w1, w2]
theorem qSum0_c (a b : Nat) (ha : a < 18446744073709551616) (hb : b < 18446744073709551616) : C 337 [.agg [.int .u64 a, .int .u64 b, .bool false], .agg [.int .u64 0, .int .u64 0, .bool false]] (.agg [.int .u64 a, .int .u64 b, .bool false]) [] := by
  refine start hC (nf := N337_ref03_Sum) rfl rfl ?_
  simp [N337_ref03_Sum]
  refine callW_of (qPlus0_c hC a b ha hb) (.inl rfl) ?_
  simp
  refine callW_of (qMade_c hC a b) (.inl rfl) ?_
  simp
  exact indW_of (by decide +kernel)
theorem qSumL_c (a b c d p q : Nat) (ha : c < 18446744073709551616) (hb : d < 18446744073709551616) (hd : b < 18446744073709551616) (hq : q < 18446744073709551616) (h : p * 18446744073709551616 + q + (a * 18446744073709551616 + b) = c * 18446744073709551616 + d) (hl : a < c ∨ (a = c ∧ b < d)) : C 337 [.agg [.int .u64 a, .int .u64 b, .bool false], .agg [.int .u64 c, .int .u64 d, .bool true]] (.agg [.int .u64 p, .int .u64 q, .bool true]) [] := by
  have k1 := qLess_c hC a b c d
  rw [decide_eq_true hl] at k1
  have k2 := qMinus_c hC c d a b p q ha hb hd hq h
  have k3 := qMadeT_c hC p q
  rw [show (!(decide (p = 0) && decide (q = 0))) = true by simp; omega] at k3
  refine start hC (nf := N337_ref03_Sum) rfl rfl ?_
  simp [N337_ref03_Sum]
  refine callW_of k1 (.inl rfl) ?_
  simp
  refine callW_of k2 (.inl rfl) ?_
  simp
  refine callW_of k3 (.inl rfl) ?_
  simp
  exact indW_of (by decide +kernel)
theorem qSumG_c (a b c d p q : Nat) (ha : a < 18446744073709551616) (hb : b < 18446744073709551616) (hd : d < 18446744073709551616) (hq : q < 18446744073709551616) (h : p * 18446744073709551616 + q + (c * 18446744073709551616 + d) = a * 18446744073709551616 + b) (hl : ¬ (a < c ∨ (a = c ∧ b < d))) : C 337 [.agg [.int .u64 a, .int .u64 b, .bool false], .agg [.int .u64 c, .int .u64 d, .bool true]] (.agg [.int .u64 p, .int .u64 q, .bool false]) [] := by
  have k1 := qLess_c hC a b c d
  rw [decide_eq_false hl] at k1
  have k2 := qMinus_c hC a b c d p q ha hb hd hq h
  have k3 := qMade_c hC p q
  refine start hC (nf := N337_ref03_Sum) rfl rfl ?_
  simp [N337_ref03_Sum]
  refine callW_of k1 (.inl rfl) ?_
  simp
  refine callW_of k2 (.inl rfl) ?_
  simp
  refine callW_of k3 (.inl rfl) ?_
  simp
  exact indW_of (by decide +kernel)
def nmD (x : Nat) : D := .agg [.int .u64 ((x / 18446744073709551616 : Nat) : Int), .int .u64 ((x % 18446744073709551616 : Nat) : Int), .bool false]
theorem qOrder_c (x y : Nat) (hx : x < 340282366920938463463374607431768211456) (hy : y < 340282366920938463463374607431768211456) : C 326 [nmD x, nmD y] (.int .i64 (cmp3 x y)) [] := by
  obtain ⟨a, ea⟩ : ∃ a, a = x / 18446744073709551616 := ⟨_, rfl⟩
  obtain ⟨b, eb⟩ : ∃ b, b = x % 18446744073709551616 := ⟨_, rfl⟩
  obtain ⟨c, ec⟩ : ∃ c, c = y / 18446744073709551616 := ⟨_, rfl⟩
  obtain ⟨d, ed⟩ : ∃ d, d = y % 18446744073709551616 := ⟨_, rfl⟩
  have ko := qOpp_c hC c d
  rw [nmD, nmD, ← ea, ← eb, ← ec, ← ed]
  by_cases hz : c = 0 ∧ d = 0
  · obtain ⟨rfl, rfl⟩ := hz
    have ks := qSum0_c hC a b (by omega) (by omega)
    simp at ko
    refine start hC (nf := N326_ref03_Order) rfl rfl ?_
    simp [N326_ref03_Order]
    refine callW_of ko (.inl rfl) ?_
    simp
    refine callW_of ks (.inl rfl) ?_
    simp
    refine ⟨indW_of (by decide +kernel), ?_⟩
    refine brB_of (fun c1 => ?_) (fun c1 => ?_) <;> simp at c1
    · simp [c1]
      rw [cmp3, if_neg (by omega), if_neg (by omega)]
    · simp
      rw [cmp3, if_neg (by omega), if_pos (by omega)]
  · rw [show (!(decide (c = 0) && decide (d = 0))) = true by simp; omega] at ko
    by_cases hl : a < c ∨ (a = c ∧ b < d)
    · have ks := qSumL_c hC a b c d ((y - x) / 18446744073709551616) ((y - x) % 18446744073709551616) (by omega) (by omega) (by omega) (by omega) (by omega) hl
      obtain ⟨p, ep⟩ : ∃ p, p = (y - x) / 18446744073709551616 := ⟨_, rfl⟩
      obtain ⟨q, eq⟩ : ∃ q, q = (y - x) % 18446744073709551616 := ⟨_, rfl⟩
      rw [← ep, ← eq] at ks
      refine start hC (nf := N326_ref03_Order) rfl rfl ?_
      simp [N326_ref03_Order]
      refine callW_of ko (.inl rfl) ?_
      simp
      refine callW_of ks (.inl rfl) ?_
      simp
      refine ⟨indW_of (by decide +kernel), ?_⟩
      rw [cmp3, if_pos (by omega)]
    · have ks := qSumG_c hC a b c d ((x - y) / 18446744073709551616) ((x - y) % 18446744073709551616) (by omega) (by omega) (by omega) (by omega) (by omega) hl
      obtain ⟨p, ep⟩ : ∃ p, p = (x - y) / 18446744073709551616 := ⟨_, rfl⟩
      obtain ⟨q, eq⟩ : ∃ q, q = (x - y) % 18446744073709551616 := ⟨_, rfl⟩
      rw [← ep, ← eq] at ks
      refine start hC (nf := N326_ref03_Order) rfl rfl ?_
      simp [N326_ref03_Order]
      refine callW_of ko (.inl rfl) ?_
      simp
      refine callW_of ks (.inl rfl) ?_
      simp
      refine ⟨indW_of (by decide +kernel), ?_⟩
      refine brB_of (fun c1 => ?_) (fun c1 => ?_) <;> simp at c1
      · simp [c1]
        rw [cmp3, if_neg (by omega), if_neg (by omega)]
      · simp
        rw [cmp3, if_neg (by omega), if_pos (by omega)]
end Go.Gv

set_option linter.unusedSimpArgs false
namespace Go.Gv
variable {C : CC} (hC : Closed prog C)
include hC
theorem qSum_c (m : Msh) (hv : validM m = true) (i : Nat) (hi : i < m.f.length) : C 296 [.agg (mshC m), .int .i64 i] (.int .i64 (sumF m i)) [] := by
  obtain ⟨⟨a1, a2⟩, ⟨b1, b2⟩, ⟨c1, c2⟩⟩ := inS_bd (valid_in hv hi)
  obtain ⟨h1, h2, h3⟩ := sp_bd hv hi
  have h1 := rightS_bd h1
  have h2 := rightS_bd h2
  have h3 := rightS_bd h3
  have wz1 : IntKind.wrap .i64 ((spA m i).z + (spB m i).z) = (spA m i).z + (spB m i).z := wrap_i64 rfl (by omega)
  have wz2 : IntKind.wrap .i64 ((spA m i).z + (spB m i).z + (spC m i).z) = sumF m i := wrap_i64 rfl (by unfold sumF; omega)
  refine start hC (nf := N296_ref10_Sum) rfl rfl ?_
  simp [N296_ref10_Sum, mshC_eq, hi, fceC_eq, a1, a2, b1, b2, c1, c2, sptC_eq, spA_eq, spB_eq, spC_eq, wz1, wz2]
  exact indW_of (by decide +kernel)
set_option maxRecDepth 8000 in
set_option maxHeartbeats 2000000 in
theorem qapart_c (m : Msh) (hv : validM m = true) (i j : Nat) (hi : i < m.f.length) (hj : j < m.f.length) : C 336 [.agg (mshC m), .int .i64 i, .int .i64 j] (.int .i64 (denF m i j)) [] := by
  obtain ⟨⟨a1, a2⟩, ⟨b1, b2⟩, ⟨c1, c2⟩⟩ := inS_bd (valid_in hv hi)
  obtain ⟨⟨d1, d2⟩, ⟨e1, e2⟩, ⟨f1, f2⟩⟩ := inS_bd (valid_in hv hj)
  obtain ⟨h1, h2, h3⟩ := sp_bd hv hi
  have h1 := rightS_bd h1
  have h2 := rightS_bd h2
  have h3 := rightS_bd h3
  obtain ⟨g1, g2, g3⟩ := sp_bd hv hj
  have g1 := rightS_bd g1
  have g2 := rightS_bd g2
  have g3 := rightS_bd g3
  have hd := denF_bd hv hi hj
  have k3 := cen_bd hv hi
  have k4 := cen_bd hv hj
  have k7 := mul_bd (k := 134217728) (l := 134217728) (a := cenX m i - cenX m j) (b := cenX m i - cenX m j) (by omega) (by omega) (by omega) (by omega)
  have k8 := mul_bd (k := 134217728) (l := 134217728) (a := cenY m i - cenY m j) (b := cenY m i - cenY m j) (by omega) (by omega) (by omega) (by omega)
  have wx1 : IntKind.wrap .i64 ((spA m i).x + (spB m i).x) = (spA m i).x + (spB m i).x := wrap_i64 rfl (by omega)
  have wx2 : IntKind.wrap .i64 ((spA m i).x + (spB m i).x + (spC m i).x) = cenX m i := wrap_i64 rfl (by omega)
  have wx3 : IntKind.wrap .i64 (cenX m i - (spA m j).x) = cenX m i - (spA m j).x := wrap_i64 rfl (by omega)
  have wx4 : IntKind.wrap .i64 (cenX m i - (spA m j).x - (spB m j).x) = cenX m i - (spA m j).x - (spB m j).x := wrap_i64 rfl (by omega)
  have wx5 : IntKind.wrap .i64 (cenX m i - (spA m j).x - (spB m j).x - (spC m j).x) = cenX m i - cenX m j := wrap_i64 (by show _ = cenX m i - ((spA m j).x + (spB m j).x + (spC m j).x); omega) (by omega)
  have wy1 : IntKind.wrap .i64 ((spA m i).y + (spB m i).y) = (spA m i).y + (spB m i).y := wrap_i64 rfl (by omega)
  have wy2 : IntKind.wrap .i64 ((spA m i).y + (spB m i).y + (spC m i).y) = cenY m i := wrap_i64 rfl (by omega)
  have wy3 : IntKind.wrap .i64 (cenY m i - (spA m j).y) = cenY m i - (spA m j).y := wrap_i64 rfl (by omega)
  have wy4 : IntKind.wrap .i64 (cenY m i - (spA m j).y - (spB m j).y) = cenY m i - (spA m j).y - (spB m j).y := wrap_i64 rfl (by omega)
  have wy5 : IntKind.wrap .i64 (cenY m i - (spA m j).y - (spB m j).y - (spC m j).y) = cenY m i - cenY m j := wrap_i64 (by show _ = cenY m i - ((spA m j).y + (spB m j).y + (spC m j).y); omega) (by omega)
  have w6 : IntKind.wrap .i64 ((cenX m i - cenX m j) * (cenX m i - cenX m j)) = (cenX m i - cenX m j) * (cenX m i - cenX m j) := wrap_i64 rfl (by omega)
  have w7 : IntKind.wrap .i64 ((cenY m i - cenY m j) * (cenY m i - cenY m j)) = (cenY m i - cenY m j) * (cenY m i - cenY m j) := wrap_i64 rfl (by omega)
  have w8 : IntKind.wrap .i64 ((cenX m i - cenX m j) * (cenX m i - cenX m j) + (cenY m i - cenY m j) * (cenY m i - cenY m j)) = denF m i j := wrap_i64 rfl (by omega)
  refine start hC (nf := N336_ref10_apart) rfl rfl ?_
  simp [N336_ref10_apart, mshC_eq, hi, hj, fceC_eq, a1, a2, b1, b2, c1, c2, d1, d2, e1, e2, f1, f2, sptC_eq, spA_eq, spB_eq, spC_eq, wx1, wx2, wx3, wx4, wx5, wy1, wy2, wy3, wy4, wy5, w6, w7, w8]
  exact ⟨indW_of (by decide +kernel), indW_of (by decide +kernel)⟩
theorem qSlope_c (m : Msh) (hv : validM m = true) (i j : Nat) (hi : i < m.f.length) (hj : j < m.f.length) (hs : sumF m j ≤ sumF m i) : C 325 [.agg (mshC m), .int .i64 i, .int .i64 j] (.tup [.int .i64 (numF m i j), .int .i64 (denF m i j)]) [] := by
  have k1 := qSum_c hC m hv i hi
  have k2 := qSum_c hC m hv j hj
  have k3 := qapart_c hC m hv i j hi hj
  have b1 := sumF_bd hv hi
  have b2 := sumF_bd hv hj
  have b3 := numF_bd hv hi hj
  have w1 : IntKind.wrap .i64 (sumF m i - sumF m j) = difF m i j := wrap_i64 rfl (by unfold difF; omega)
  have d0 : ¬ difF m i j < 0 := by unfold difF; omega
  have e : numF m i j = difF m i j * difF m i j := by unfold numF; rw [if_neg (by omega)]
  rw [e] at b3 ⊢
  have w2 : IntKind.wrap .i64 (difF m i j * difF m i j) = difF m i j * difF m i j := wrap_i64 rfl (by omega)
  refine start hC (nf := N325_ref10_Slope) rfl rfl ?_
  simp only [mshC_eq] at k1 k2 k3
  simp [N325_ref10_Slope, mshC_eq]
  refine callW_of k1 (.inl rfl) ?_
  simp
  refine callW_of k2 (.inl rfl) ?_
  simp [w1]
  refine ⟨indW_of (by decide +kernel), ?_⟩
  simp [d0, w2]
  refine callW_of k3 (.inl rfl) ?_
  simp
theorem qSteeper_c (m : Msh) (hv : validM m = true) (i a b : Nat) (hi : i < m.f.length) (ha : a < m.f.length) (hb : b < m.f.length) (sa : sumF m a ≤ sumF m i) (sb : sumF m b ≤ sumF m i) :
    C 297 [.agg (mshC m), .int .i64 i, .int .i64 a, .int .i64 b] (.int .i64 (cmpF m i a b)) [] := by
  have k1 := qSlope_c hC m hv i a hi ha sa
  have k2 := qSlope_c hC m hv i b hi hb sb
  have n1 := numF_bd hv hi ha
  have n2 := numF_bd hv hi hb
  have n3 := numF_nn sa
  have n4 := numF_nn sb
  have d1 := denF_bd hv hi ha
  have d2 := denF_bd hv hi hb
  obtain ⟨x, hx⟩ : ∃ x : Nat, numF m i a = x := ⟨(numF m i a).toNat, by omega⟩
  obtain ⟨y, hy⟩ : ∃ x : Nat, numF m i b = x := ⟨(numF m i b).toNat, by omega⟩
  obtain ⟨p, hp⟩ : ∃ x : Nat, denF m i a = x := ⟨(denF m i a).toNat, by omega⟩
  obtain ⟨q, hq⟩ : ∃ x : Nat, denF m i b = x := ⟨(denF m i b).toNat, by omega⟩
  have b1 : x * q ≤ 1125899906842624 * 36028797018963968 := Nat.mul_le_mul (by omega) (by omega)
  have b2 : y * p ≤ 1125899906842624 * 36028797018963968 := Nat.mul_le_mul (by omega) (by omega)
  have k3 := qTimes_c hC x q (by omega) (by omega)
  have k4 := qTimes_c hC y p (by omega) (by omega)
  have k5 := qOrder_c hC (x * q) (y * p) (by omega) (by omega)
  have e : cmpF m i a b = cmp3 ((x * q : Nat) : Int) ((y * p : Nat) : Int) := by rw [cmpF, hx, hy, hp, hq]; simp
  rw [hx, hp] at k1
  rw [hy, hq] at k2
  rw [e]
  obtain ⟨c, hc⟩ : ∃ c, c = cmp3 ((x * q : Nat) : Int) ((y * p : Nat) : Int) := ⟨_, rfl⟩
  rw [← hc] at k5 ⊢
  simp only [nmD] at k5
  obtain ⟨u1, hu1⟩ : ∃ z, z = x * q / 18446744073709551616 := ⟨_, rfl⟩
  obtain ⟨u2, hu2⟩ : ∃ z, z = x * q % 18446744073709551616 := ⟨_, rfl⟩
  obtain ⟨v1, hv1⟩ : ∃ z, z = y * p / 18446744073709551616 := ⟨_, rfl⟩
  obtain ⟨v2, hv2⟩ : ∃ z, z = y * p % 18446744073709551616 := ⟨_, rfl⟩
  rw [← hu1, ← hu2] at k3 k5
  rw [← hv1, ← hv2] at k4 k5
  obtain ⟨G, hG⟩ : ∃ G, G = mshC m := ⟨_, rfl⟩
  simp only [mshC_eq] at k1 k2 
  refine start hC (nf := N297_ref10_Steeper) rfl rfl ?_
  simp [N297_ref10_Steeper, mshC_eq]
  refine callW_of k1 (.inl rfl) ?_
  simp
  refine callW_of k2 (.inl rfl) ?_
  simp
  refine callW_of k3 (.inl rfl) ?_
  simp
  refine callW_of k4 (.inl rfl) ?_
  simp
  refine callW_of k5 (.inl rfl) ?_
  simp
end Go.Gv

set_option linter.unusedSimpArgs false
namespace Go.Gv
theorem hasSd_at {f : Fce} {a b : Int} {k : Nat} (hk : k < 3) (h1 : crn f k = a) (h2 : crn f (k + 1) = b) : hasSd f a b = true := by
  simp only [hasSd, List.any_eq_true, List.mem_range, Bool.and_eq_true, decide_eq_true_eq]
  exact ⟨k, hk, h1, h2⟩
theorem hasSd_no {f : Fce} {a b : Int} (h : ∀ k, k < 3 → ¬ (crn f k = a ∧ crn f (k + 1) = b)) : hasSd f a b = false := by
  simp only [hasSd, List.any_eq_false, List.mem_range, Bool.and_eq_true, decide_eq_true_eq]
  exact h
theorem sideF_at {m : Msh} {a b : Int} {i : Nat} (hi : i < m.f.length) (hj : ∀ j, j < i → hasSd (fce m j) a b = false) (h : hasSd (fce m i) a b = true) : sideF m a b = i := by
  refine idxD_step (fun j hl hji => ?_) hi ?_
  · rw [fce_g]; exact hj j hji
  · rw [fce_g]; exact h
theorem sideF_no {m : Msh} {a b : Int} (hj : ∀ j, j < m.f.length → hasSd (fce m j) a b = false) : sideF m a b = -1 := by
  refine idxD_none (fun j hl => ?_)
  rw [fce_g]; exact hj j hl
def sidK (m : Msh) (a b : Int) : Int := if sideF m a b < 0 then 0 else idxD (fun j => decide (crn (fce m (sideF m a b).toNat) j = a) && decide (crn (fce m (sideF m a b).toNat) (j + 1) = b)) (List.range 3)
theorem sidK_no {m : Msh} {a b : Int} (h : sideF m a b = -1) : sidK m a b = 0 := by rw [sidK, if_pos (by omega)]
theorem sidK_at {m : Msh} {a b : Int} {i k : Nat} (h : sideF m a b = i) (hk : k < 3) (hj : ∀ j, j < k → ¬ (crn (fce m i) j = a ∧ crn (fce m i) (j + 1) = b)) (h1 : crn (fce m i) k = a) (h2 : crn (fce m i) (k + 1) = b) : sidK m a b = k := by
  rw [sidK, if_neg (by omega), h]
  refine idxD_step (fun j hl hjk => ?_) (by simp; omega) ?_
  · have := hj j hjk
    simp only [Int.toNat_natCast, List.getElem_range, Bool.and_eq_false_iff, decide_eq_false_iff_not]
    omega
  · simp [h1, h2]
def acK (m : Msh) (i k : Nat) : Int := sidK m (crn (fce m i) (k + 1)) (crn (fce m i) k)
def nbT (m : Msh) (i : Nat) : List (List D) := (List.range i).map fun j => [.int .i64 (nbF m j 0), .int .i64 (nbF m j 1), .int .i64 (nbF m j 2)]
@[simp] theorem nbT_len (m : Msh) (i : Nat) : (nbT m i).length = i := by simp [nbT]
theorem nbT_add (m : Msh) (i : Nat) : nbT m i ++ [[.int .i64 (nbF m i 0), .int .i64 (nbF m i 1), .int .i64 (nbF m i 2)]] = nbT m (i + 1) := by simp [nbT, List.range_succ]
@[simp] theorem nbT_take (m : Msh) (i : Nat) : List.take i (nbT m i) = nbT m i := List.take_of_length_le (by simp)
@[simp] theorem nbT_cv (m : Msh) (i : Nat) : List.map (fun e => List.map cellV e) (nbT m i) = nbT m i := by simp [nbT]
variable {C : CC} (hC : Closed prog C)
include hC
set_option maxHeartbeats 2000000 in
theorem qSide_c (m : Msh) (hm : m.f.length ≤ 100) (a b : Int) : C 322 [.agg (mshC m), .int .i64 a, .int .i64 b] (.tup [.int .i64 (sideF m a b), .int .i64 (sidK m a b)]) [] := by
  have kr := fun i k h => rCorner_c hC (fce m i) k h
  refine start hC (nf := N322_ref09_Side) rfl rfl ?_
  simp only [fceC_eq] at kr
  simp [N322_ref09_Side, mshC_eq]
  refine loop_of Nat (fun i => [(1, .int .i64 a), (2, .int .i64 b), (3, .ptr (mshC m)), (8, .int .i64 i)]) (fun i => i ≤ m.f.length ∧ ∀ j, j < i → hasSd (fce m j) a b = false) (fun i => m.f.length - i) 0 (by simp) (by simp [mshC_eq]) ?_
  rintro i ⟨hi, hj⟩
  simp [mshC_eq]
  refine brB_of (fun g1 => ?_) (fun g1 => ?_) <;> simp at g1 <;> simp [g1]
  · have hw : IntKind.wrap .i64 ((i : Int) + 1) = ((i + 1 : Nat) : Int) := wrap_i64 (by omega) (by omega)
    refine loop_of Nat (fun k => [(1, .int .i64 a), (2, .int .i64 b), (3, .ptr (mshC m)), (8, .int .i64 i), (9, .int .i64 k)]) (fun k => k ≤ 3 ∧ ∀ j, j < k → ¬ (crn (fce m i) j = a ∧ crn (fce m i) (j + 1) = b)) (fun k => 3 - k) 0 (by simp) (by simp [mshC_eq]) ?_
    rintro k ⟨hk, hn⟩
    simp [mshC_eq]
    refine brB_of (fun g2 => ?_) (fun g2 => ?_) <;> simp at g2 <;> simp [g2]
    · have hw2 : IntKind.wrap .i64 ((k : Int) + 1) = ((k + 1 : Nat) : Int) := wrap_i64 (by omega) (by omega)
      simp [g1, fceC_eq]
      refine callW_of (kr i k (by omega)) (.inl rfl) ?_
      simp
      refine brB_of (fun c1 => ?_) (fun c1 => ?_) <;> simp at c1
      · simp [c1, g1, hw2, fceC_eq]
        refine callW_of (kr i (k + 1) (by omega)) (.inl rfl) ?_
        simp
        refine brB_of (fun c2 => ?_) (fun c2 => ?_) <;> simp at c2
        · have hs := sideF_at g1 hj (hasSd_at (by omega) c1 c2)
          simp [c2]
          exact ⟨hs, sidK_at hs (by omega) hn c1 c2⟩
        · simp [c2]
          refine ⟨k + 1, ⟨by omega, fun j hjk => ?_⟩, by omega, ?_⟩
          · rcases Nat.lt_succ_iff_lt_or_eq.1 hjk with h | rfl
            · exact fun h3 h4 => hn j h ⟨h3, h4⟩
            · exact fun _ h => c2 h
          · simp [mshC_eq, hw2]
      · simp [c1]
        refine ⟨k + 1, ⟨by omega, fun j hjk => ?_⟩, by omega, ?_⟩
        · rcases Nat.lt_succ_iff_lt_or_eq.1 hjk with h | rfl
          · exact fun h3 h4 => hn j h ⟨h3, h4⟩
          · exact fun h => absurd h c1
        · simp [mshC_eq, hw2]
    · have hk3 : k = 3 := by omega
      subst hk3
      refine ⟨i + 1, ⟨by omega, fun j hji => ?_⟩, by omega, ?_⟩
      · rcases Nat.lt_succ_iff_lt_or_eq.1 hji with h | rfl
        · exact hj j h
        · exact hasSd_no hn
      · simp [mshC_eq, hw]
  · have hs := sideF_no (m := m) (a := a) (b := b) (fun j hl => hj j (by omega))
    exact ⟨hs, sidK_no hs⟩
theorem qAcross_c (m : Msh) (hm : m.f.length ≤ 100) (i k : Nat) (hi : i < m.f.length) (hk : k < 3) : C 287 [.agg (mshC m), .int .i64 i, .int .i64 k] (.tup [.int .i64 (nbF m i k), .int .i64 (acK m i k)]) [] := by
  have k1 := rCorner_c hC (fce m i) (k + 1) (by omega)
  have k2 := rCorner_c hC (fce m i) k (by omega)
  have k3 := qSide_c hC m hm (crn (fce m i) (k + 1)) (crn (fce m i) k)
  rw [show sideF m (crn (fce m i) (k + 1)) (crn (fce m i) k) = nbF m i k from rfl, show sidK m (crn (fce m i) (k + 1)) (crn (fce m i) k) = acK m i k from rfl] at k3
  have hw2 : IntKind.wrap .i64 ((k : Int) + 1) = ((k + 1 : Nat) : Int) := wrap_i64 (by omega) (by omega)
  refine start hC (nf := N287_ref09_Across) rfl rfl ?_
  simp only [mshC_eq, fceC_eq] at k1 k2 k3
  simp [N287_ref09_Across, mshC_eq, hi, fceC_eq, hw2]
  refine callW_of k1 (.inl rfl) ?_
  simp
  refine callW_of k2 (.inl rfl) ?_
  simp
  refine callW_of k3 (.inl rfl) ?_
  simp
  exact indW_of (by decide +kernel)
set_option maxHeartbeats 2000000 in
theorem qNeighbours_c (m : Msh) (hm : m.f.length ≤ 100) : C 259 [.agg (mshC m)] (.sl (nbA m)) [] := by
  have ka := fun i k hi hk => qAcross_c hC m hm i k hi hk
  refine start hC (nf := N259_ref09_Neighbours) rfl rfl ?_
  simp only [mshC_eq] at ka
  simp [N259_ref09_Neighbours, mshC_eq]
  refine loop_of Nat (fun i => [(1, .ptr (mshC m)), (3, .ref (.r 10048) 0 i), (10048, .blk 3 (nbT m i)), (4, .int .i64 i)]) (fun i => i ≤ m.f.length) (fun i => m.f.length - i) 0 (by simp) (by simp [mshC_eq, nbT]) ?_
  rintro i hi
  simp [mshC_eq]
  refine brB_of (fun g1 => ?_) (fun g1 => ?_) <;> simp at g1 <;> simp [g1]
  · have hw : IntKind.wrap .i64 ((i : Int) + 1) = ((i + 1 : Nat) : Int) := wrap_i64 (by omega) (by omega)
    have k0 := ka i 0 g1 (by omega)
    have k1 := ka i 1 g1 (by omega)
    have k2 := ka i 2 g1 (by omega)
    simp at k0 k1 k2
    refine callW_of k0 (.inl rfl) ?_
    simp
    refine callW_of k1 (.inl rfl) ?_
    simp
    refine callW_of k2 (.inl rfl) ?_
    simp
    refine ⟨by rintro c ((rfl | rfl) | rfl) <;> rfl, by omega, i + 1, by omega, by omega, by simp [mshC_eq], rfl, nbT_add m i, hw⟩
  · have hi2 : i = m.f.length := by omega
    subst hi2
    rfl
end Go.Gv

set_option linter.unusedSimpArgs false
namespace Go.Gv
def bdB (m : Msh) (i k : Nat) : Bool := (List.range k).any fun c => decide (nbF m i c < 0)
theorem bdB_succ (m : Msh) (i k : Nat) : bdB m i (k + 1) = (bdB m i k || decide (nbF m i k < 0)) := by simp [bdB, List.range_succ]
theorem bdB_3 (m : Msh) (i : Nat) : bdB m i 3 = bsd m i (-1) := by
  have h3 : List.range 3 = [0, 1, 2] := rfl
  have e : ∀ c, decide (nbF m i c < 0) = decide (-1 = nbF m i c) := fun c => by
    have := nbF_bd m i c
    rw [Bool.eq_iff_iff]
    simp
    omega
  simp [bdB, h3, bsd, e]
def ini (m : Msh) (i k : Nat) : Int := if bdB m i k then -1 else -2
def qup (m : Msh) (i k : Nat) : Int := if upF m i k < 0 then ini m i 3 else upF m i k
theorem qup_3 (m : Msh) (i : Nat) : qup m i 3 = runF m i := by
  have := upF_bd m i 3
  unfold qup ini runF
  rw [bdB_3]
  cases bsd m i (-1) <;> simp <;> omega
theorem ini_neg (m : Msh) (i k : Nat) : ini m i k < 0 := by unfold ini; split <;> omega
theorem ini_step (m : Msh) (i k : Nat) : ini m i (k + 1) = if nbF m i k < 0 ∧ ini m i k = -2 then -1 else ini m i k := by
  unfold ini
  rw [bdB_succ]
  cases bdB m i k <;> simp
variable {C : CC} (hC : Closed prog C)
include hC
set_option maxRecDepth 8000 in
set_option maxHeartbeats 2000000 in
theorem qRuns_c (m : Msh) (hv : validM m = true) (i : Nat) (hi : i < m.f.length) : C 260 [.agg (mshC m), .sl (nbA m), .int .i64 i] (.int .i64 (runF m i)) [] := by
  have hs := fun j hj => qSum_c hC m hv j hj
  have ks := fun a b ha hb sa sb => qSteeper_c hC m hv i a b hi ha hb sa sb
  simp only [mshC_eq] at hs ks
  refine start hC (nf := N260_ref10_Runs) rfl rfl ?_
  simp [N260_ref10_Runs, mshC_eq]
  have hnb : (nbA m)[i]? = some [.int .i64 (nbF m i 0), .int .i64 (nbF m i 1), .int .i64 (nbF m i 2)] := by simp [nbA, hi]
  refine loop_of Nat (fun k => [(1, .sl (nbA m)), (2, .int .i64 i), (3, .ptr (mshC m)), (7, .int .i64 (ini m i k)), (8, .int .i64 k)]) (fun k => k ≤ 3) (fun k => 3 - k) 0 (by simp) (by simp [mshC_eq, ini, bdB]) ?_
  rintro k hk
  rcases (by omega : k = 0 ∨ k = 1 ∨ k = 2 ∨ k = 3) with rfl | rfl | rfl | rfl
  · have st := ini_step m i 0
    obtain ⟨N, hN⟩ : ∃ N, N = nbF m i 0 := ⟨_, rfl⟩
    obtain ⟨B, hB⟩ : ∃ B, B = ini m i 0 := ⟨_, rfl⟩
    rw [← hN, ← hB] at st
    simp [mshC_eq, w64_1, w64_2, w64_3]
    rw [idxW_some hnb]
    simp [← hN, ← hB]
    by_cases c1 : N < 0
    · by_cases c2 : B = -2
      · rw [if_pos ⟨c1, c2⟩] at st
        simp [c1, c2, w64_1, w64_2, w64_3]
        exact ⟨1, by omega, by omega, by simp [mshC_eq], st.symm, by simp⟩
      · rw [if_neg (by omega)] at st
        simp [c1, c2, w64_1, w64_2, w64_3]
        exact ⟨1, by omega, by omega, by simp [mshC_eq], st.symm, by simp⟩
    · rw [if_neg (by omega)] at st
      simp [c1, w64_1, w64_2, w64_3]
      exact ⟨1, by omega, by omega, by simp [mshC_eq], st.symm, by simp⟩
  · have st := ini_step m i 1
    obtain ⟨N, hN⟩ : ∃ N, N = nbF m i 1 := ⟨_, rfl⟩
    obtain ⟨B, hB⟩ : ∃ B, B = ini m i 1 := ⟨_, rfl⟩
    rw [← hN, ← hB] at st
    simp [mshC_eq, w64_1, w64_2, w64_3]
    rw [idxW_some hnb]
    simp [← hN, ← hB]
    by_cases c1 : N < 0
    · by_cases c2 : B = -2
      · rw [if_pos ⟨c1, c2⟩] at st
        simp [c1, c2, w64_1, w64_2, w64_3]
        exact ⟨2, by omega, by omega, by simp [mshC_eq], st.symm, by simp⟩
      · rw [if_neg (by omega)] at st
        simp [c1, c2, w64_1, w64_2, w64_3]
        exact ⟨2, by omega, by omega, by simp [mshC_eq], st.symm, by simp⟩
    · rw [if_neg (by omega)] at st
      simp [c1, w64_1, w64_2, w64_3]
      exact ⟨2, by omega, by omega, by simp [mshC_eq], st.symm, by simp⟩
  · have st := ini_step m i 2
    obtain ⟨N, hN⟩ : ∃ N, N = nbF m i 2 := ⟨_, rfl⟩
    obtain ⟨B, hB⟩ : ∃ B, B = ini m i 2 := ⟨_, rfl⟩
    rw [← hN, ← hB] at st
    simp [mshC_eq, w64_1, w64_2, w64_3]
    rw [idxW_some hnb]
    simp [← hN, ← hB]
    by_cases c1 : N < 0
    · by_cases c2 : B = -2
      · rw [if_pos ⟨c1, c2⟩] at st
        simp [c1, c2, w64_1, w64_2, w64_3]
        exact ⟨3, by omega, by omega, by simp [mshC_eq], st.symm, by simp⟩
      · rw [if_neg (by omega)] at st
        simp [c1, c2, w64_1, w64_2, w64_3]
        exact ⟨3, by omega, by omega, by simp [mshC_eq], st.symm, by simp⟩
    · rw [if_neg (by omega)] at st
      simp [c1, w64_1, w64_2, w64_3]
      exact ⟨3, by omega, by omega, by simp [mshC_eq], st.symm, by simp⟩
  · simp [mshC_eq]
    refine loop_of Nat (fun k => [(1, .sl (nbA m)), (2, .int .i64 i), (3, .ptr (mshC m)), (7, .int .i64 (qup m i k)), (10, .int .i64 k)]) (fun k => k ≤ 3) (fun k => 3 - k) 0 (by simp) (by simp [mshC_eq, qup, upF]) ?_
    clear hk
    rintro k hk
    rcases (by omega : k = 0 ∨ k = 1 ∨ k = 2 ∨ k = 3) with rfl | rfl | rfl | rfl
    · have step : upF m i 1 = stpF m i (upF m i 0) (nbF m i 0) := rfl
      have nb := nbF_bd m i 0
      have ub := upF_bd m i 0
      have iN := ini_neg m i 3
      have q0 : qup m i 0 = if upF m i 0 < 0 then ini m i 3 else upF m i 0 := rfl
      have q1 : qup m i 1 = if upF m i 1 < 0 then ini m i 3 else upF m i 1 := rfl
      obtain ⟨N, hN⟩ : ∃ N, N = nbF m i 0 := ⟨_, rfl⟩
      obtain ⟨U, hU⟩ : ∃ U, U = upF m i 0 := ⟨_, rfl⟩
      obtain ⟨V, hV⟩ : ∃ V, V = upF m i 1 := ⟨_, rfl⟩
      obtain ⟨B, hB⟩ : ∃ B, B = qup m i 0 := ⟨_, rfl⟩
      rw [← hN, ← hU, ← hV] at step
      rw [← hN] at nb
      rw [← hU] at ub
      rw [← hB, ← hU] at q0
      rw [← hV] at q1
      simp [mshC_eq, w64_1, w64_2, w64_3]
      rw [idxW_some hnb]
      simp [← hN, ← hB]
      by_cases c1 : N < 0
      · rw [stpF, if_pos (.inl c1)] at step
        simp [c1, w64_1, w64_2, w64_3]
        exact ⟨indW_of (by decide +kernel), 1, by omega, by omega, by simp [mshC_eq], by rw [q1, step]; exact q0, by simp⟩
      · have n0 : 0 ≤ N := by omega
        have kN := hs N.toNat (by omega)
        have kI := hs i hi
        rw [Int.toNat_of_nonneg n0] at kN
        simp [c1]
        refine callW_of kN (.inl rfl) ?_
        simp
        refine callW_of kI (.inl rfl) ?_
        simp
        by_cases c2 : sumF m i ≤ sumF m N.toNat
        · rw [stpF, if_pos (.inr c2)] at step
          simp [c2, w64_1, w64_2, w64_3]
          exact ⟨indW_of (by decide +kernel), 1, by omega, by omega, by simp [mshC_eq], by rw [q1, step]; exact q0, by simp⟩
        · rw [stpF, if_neg (by omega)] at step
          simp [c2]
          refine ⟨indW_of (by decide +kernel), ?_⟩
          by_cases c3 : U < 0
          · rw [if_pos c3] at step q0
            have b0 : B < 0 := by omega
            simp [b0, w64_1, w64_2, w64_3]
            exact ⟨1, by omega, by omega, by simp [mshC_eq], by rw [q1, step, if_neg c1], by simp⟩
          · rw [if_neg c3] at step q0
            have b0 : ¬ B < 0 := by omega
            have hc := ks N.toNat U.toNat (by omega) (by omega) (by omega) (by omega)
            rw [Int.toNat_of_nonneg n0, Int.toNat_of_nonneg (by omega), ← q0] at hc
            obtain ⟨c, hcc⟩ : ∃ c, c = cmpF m i N.toNat U.toNat := ⟨_, rfl⟩
            rw [← q0] at hcc step
            rw [← hcc] at hc step
            simp [b0]
            refine callW_of hc (.inl rfl) ?_
            simp
            by_cases c4 : 0 < c
            · rw [if_pos (.inl c4)] at step
              simp [c4, w64_1, w64_2, w64_3]
              exact ⟨1, by omega, by omega, by simp [mshC_eq], by rw [q1, step, if_neg c1], by simp⟩
            · by_cases c5 : c = 0 ∧ N < B
              · rw [if_pos (.inr c5)] at step
                simp [c4, c5.1, c5.2, w64_1, w64_2, w64_3]
                exact ⟨1, by omega, by omega, by simp [mshC_eq], by rw [q1, step, if_neg c1], by simp⟩
              · rw [if_neg (by omega)] at step
                by_cases c6 : c = 0
                · have c7 : ¬ N < B := fun h => c5 ⟨c6, h⟩
                  simp [c6, c7, w64_1, w64_2, w64_3]
                  exact ⟨1, by omega, by omega, by simp [mshC_eq], by rw [q1, step, if_neg b0], by simp⟩
                · simp [c4, c6, w64_1, w64_2, w64_3]
                  exact ⟨1, by omega, by omega, by simp [mshC_eq], by rw [q1, step, if_neg b0], by simp⟩
    · have step : upF m i 2 = stpF m i (upF m i 1) (nbF m i 1) := rfl
      have nb := nbF_bd m i 1
      have ub := upF_bd m i 1
      have iN := ini_neg m i 3
      have q0 : qup m i 1 = if upF m i 1 < 0 then ini m i 3 else upF m i 1 := rfl
      have q1 : qup m i 2 = if upF m i 2 < 0 then ini m i 3 else upF m i 2 := rfl
      obtain ⟨N, hN⟩ : ∃ N, N = nbF m i 1 := ⟨_, rfl⟩
      obtain ⟨U, hU⟩ : ∃ U, U = upF m i 1 := ⟨_, rfl⟩
      obtain ⟨V, hV⟩ : ∃ V, V = upF m i 2 := ⟨_, rfl⟩
      obtain ⟨B, hB⟩ : ∃ B, B = qup m i 1 := ⟨_, rfl⟩
      rw [← hN, ← hU, ← hV] at step
      rw [← hN] at nb
      rw [← hU] at ub
      rw [← hB, ← hU] at q0
      rw [← hV] at q1
      simp [mshC_eq, w64_1, w64_2, w64_3]
      rw [idxW_some hnb]
      simp [← hN, ← hB]
      by_cases c1 : N < 0
      · rw [stpF, if_pos (.inl c1)] at step
        simp [c1, w64_1, w64_2, w64_3]
        exact ⟨indW_of (by decide +kernel), 2, by omega, by omega, by simp [mshC_eq], by rw [q1, step]; exact q0, by simp⟩
      · have n0 : 0 ≤ N := by omega
        have kN := hs N.toNat (by omega)
        have kI := hs i hi
        rw [Int.toNat_of_nonneg n0] at kN
        simp [c1]
        refine callW_of kN (.inl rfl) ?_
        simp
        refine callW_of kI (.inl rfl) ?_
        simp
        by_cases c2 : sumF m i ≤ sumF m N.toNat
        · rw [stpF, if_pos (.inr c2)] at step
          simp [c2, w64_1, w64_2, w64_3]
          exact ⟨indW_of (by decide +kernel), 2, by omega, by omega, by simp [mshC_eq], by rw [q1, step]; exact q0, by simp⟩
        · rw [stpF, if_neg (by omega)] at step
          simp [c2]
          refine ⟨indW_of (by decide +kernel), ?_⟩
          by_cases c3 : U < 0
          · rw [if_pos c3] at step q0
            have b0 : B < 0 := by omega
            simp [b0, w64_1, w64_2, w64_3]
            exact ⟨2, by omega, by omega, by simp [mshC_eq], by rw [q1, step, if_neg c1], by simp⟩
          · rw [if_neg c3] at step q0
            have b0 : ¬ B < 0 := by omega
            have hc := ks N.toNat U.toNat (by omega) (by omega) (by omega) (by omega)
            rw [Int.toNat_of_nonneg n0, Int.toNat_of_nonneg (by omega), ← q0] at hc
            obtain ⟨c, hcc⟩ : ∃ c, c = cmpF m i N.toNat U.toNat := ⟨_, rfl⟩
            rw [← q0] at hcc step
            rw [← hcc] at hc step
            simp [b0]
            refine callW_of hc (.inl rfl) ?_
            simp
            by_cases c4 : 0 < c
            · rw [if_pos (.inl c4)] at step
              simp [c4, w64_1, w64_2, w64_3]
              exact ⟨2, by omega, by omega, by simp [mshC_eq], by rw [q1, step, if_neg c1], by simp⟩
            · by_cases c5 : c = 0 ∧ N < B
              · rw [if_pos (.inr c5)] at step
                simp [c4, c5.1, c5.2, w64_1, w64_2, w64_3]
                exact ⟨2, by omega, by omega, by simp [mshC_eq], by rw [q1, step, if_neg c1], by simp⟩
              · rw [if_neg (by omega)] at step
                by_cases c6 : c = 0
                · have c7 : ¬ N < B := fun h => c5 ⟨c6, h⟩
                  simp [c6, c7, w64_1, w64_2, w64_3]
                  exact ⟨2, by omega, by omega, by simp [mshC_eq], by rw [q1, step, if_neg b0], by simp⟩
                · simp [c4, c6, w64_1, w64_2, w64_3]
                  exact ⟨2, by omega, by omega, by simp [mshC_eq], by rw [q1, step, if_neg b0], by simp⟩
    · have step : upF m i 3 = stpF m i (upF m i 2) (nbF m i 2) := rfl
      have nb := nbF_bd m i 2
      have ub := upF_bd m i 2
      have iN := ini_neg m i 3
      have q0 : qup m i 2 = if upF m i 2 < 0 then ini m i 3 else upF m i 2 := rfl
      have q1 : qup m i 3 = if upF m i 3 < 0 then ini m i 3 else upF m i 3 := rfl
      obtain ⟨N, hN⟩ : ∃ N, N = nbF m i 2 := ⟨_, rfl⟩
      obtain ⟨U, hU⟩ : ∃ U, U = upF m i 2 := ⟨_, rfl⟩
      obtain ⟨V, hV⟩ : ∃ V, V = upF m i 3 := ⟨_, rfl⟩
      obtain ⟨B, hB⟩ : ∃ B, B = qup m i 2 := ⟨_, rfl⟩
      rw [← hN, ← hU, ← hV] at step
      rw [← hN] at nb
      rw [← hU] at ub
      rw [← hB, ← hU] at q0
      rw [← hV] at q1
      simp [mshC_eq, w64_1, w64_2, w64_3]
      rw [idxW_some hnb]
      simp [← hN, ← hB]
      by_cases c1 : N < 0
      · rw [stpF, if_pos (.inl c1)] at step
        simp [c1, w64_1, w64_2, w64_3]
        exact ⟨indW_of (by decide +kernel), 3, by omega, by omega, by simp [mshC_eq], by rw [q1, step]; exact q0, by simp⟩
      · have n0 : 0 ≤ N := by omega
        have kN := hs N.toNat (by omega)
        have kI := hs i hi
        rw [Int.toNat_of_nonneg n0] at kN
        simp [c1]
        refine callW_of kN (.inl rfl) ?_
        simp
        refine callW_of kI (.inl rfl) ?_
        simp
        by_cases c2 : sumF m i ≤ sumF m N.toNat
        · rw [stpF, if_pos (.inr c2)] at step
          simp [c2, w64_1, w64_2, w64_3]
          exact ⟨indW_of (by decide +kernel), 3, by omega, by omega, by simp [mshC_eq], by rw [q1, step]; exact q0, by simp⟩
        · rw [stpF, if_neg (by omega)] at step
          simp [c2]
          refine ⟨indW_of (by decide +kernel), ?_⟩
          by_cases c3 : U < 0
          · rw [if_pos c3] at step q0
            have b0 : B < 0 := by omega
            simp [b0, w64_1, w64_2, w64_3]
            exact ⟨3, by omega, by omega, by simp [mshC_eq], by rw [q1, step, if_neg c1], by simp⟩
          · rw [if_neg c3] at step q0
            have b0 : ¬ B < 0 := by omega
            have hc := ks N.toNat U.toNat (by omega) (by omega) (by omega) (by omega)
            rw [Int.toNat_of_nonneg n0, Int.toNat_of_nonneg (by omega), ← q0] at hc
            obtain ⟨c, hcc⟩ : ∃ c, c = cmpF m i N.toNat U.toNat := ⟨_, rfl⟩
            rw [← q0] at hcc step
            rw [← hcc] at hc step
            simp [b0]
            refine callW_of hc (.inl rfl) ?_
            simp
            by_cases c4 : 0 < c
            · rw [if_pos (.inl c4)] at step
              simp [c4, w64_1, w64_2, w64_3]
              exact ⟨3, by omega, by omega, by simp [mshC_eq], by rw [q1, step, if_neg c1], by simp⟩
            · by_cases c5 : c = 0 ∧ N < B
              · rw [if_pos (.inr c5)] at step
                simp [c4, c5.1, c5.2, w64_1, w64_2, w64_3]
                exact ⟨3, by omega, by omega, by simp [mshC_eq], by rw [q1, step, if_neg c1], by simp⟩
              · rw [if_neg (by omega)] at step
                by_cases c6 : c = 0
                · have c7 : ¬ N < B := fun h => c5 ⟨c6, h⟩
                  simp [c6, c7, w64_1, w64_2, w64_3]
                  exact ⟨3, by omega, by omega, by simp [mshC_eq], by rw [q1, step, if_neg b0], by simp⟩
                · simp [c4, c6, w64_1, w64_2, w64_3]
                  exact ⟨3, by omega, by omega, by simp [mshC_eq], by rw [q1, step, if_neg b0], by simp⟩
    · simp [mshC_eq]
      exact qup_3 m i
end Go.Gv

set_option linter.unusedSimpArgs false
namespace Go.Gv
def exM (z : Int) : Msh := ⟨false, [⟨0, 0, 0⟩, ⟨30, 0, z⟩, ⟨30, 30, 9⟩, ⟨0, 30, 0⟩], false, [⟨0, 1, 2, 0⟩, ⟨0, 2, 3, 0⟩]⟩
variable {C : CC} (hC : Closed prog C)
include hC
theorem eqI_c (b b' : Bool) (xs ys : List Int) (hx : xs.length < 2 ^ 62) (hy : ys.length < 2 ^ 62) : C 19 [slx b (xs.map fun n => [.int .i64 n]), slx b' (ys.map fun n => [.int .i64 n])] (.bool (decide (xs = ys))) [] := by
  refine start hC (nf := N19_slices_Equal__int_int) rfl rfl ?_
  simp [N19_slices_Equal__int_int]
  refine brB_of (fun h => ?_) (fun h => ?_) <;> simp at h <;> simp [h]
  · rintro rfl; exact h rfl
  have h' : xs.length = ys.length := by omega
  refine loop_of Nat (fun i => [(0, slx b (xs.map fun n => [.int .i64 n])), (1, slx b' (ys.map fun n => [.int .i64 n])), (12, .int .i64 ys.length), (13, .int .i64 i)])
    (fun i => i ≤ ys.length ∧ ∀ k, k < i → xs[k]? = ys[k]?) (fun i => ys.length - i) 0 (by simp) (by simp) ?_
  rintro i ⟨hi, hok⟩
  simp
  refine brB_of (fun h1 => ?_) (fun h1 => ?_) <;> simp at h1 <;> simp [h1]
  · have hw : IntKind.wrap .i64 ((i : Int) + 1) = ((i + 1 : Nat) : Int) := wrap_i64 (by omega) (by omega)
    have hx1 : i < xs.length := by omega
    simp [h1, hx1]
    refine ⟨indW_of (by decide +kernel), ?_⟩
    refine brB_of (fun h2 => ?_) (fun h2 => ?_) <;> simp [h1, hx1] at h2 <;> simp [h1, hx1, h2, hw]
    · rintro rfl
      exact h2 rfl
    · refine ⟨i + 1, ⟨by omega, fun k hk => ?_⟩, by omega, rfl⟩
      rcases Nat.lt_succ_iff_lt_or_eq.1 hk with h5 | rfl
      · exact hok k h5
      · rw [List.getElem?_eq_getElem h1, List.getElem?_eq_getElem hx1, h2]
  · refine List.ext_getElem? fun k => ?_
    rcases Nat.lt_or_ge k i with h2 | h2
    · exact hok k h2
    · rw [List.getElem?_eq_none (by omega), List.getElem?_eq_none (by omega)]
theorem example_c (z : Int) : C 252 [.int .i64 z] (.agg (mshC (exM z))) [] := by
  refine start hC (nf := N252_law10_example) rfl rfl ?_
  simp [N252_law10_example, exM, mshC_eq, sptC_eq, fceC_eq, List.replicate]
theorem Lakes_c (dec : Nat → List UInt8) (hI : ∀ n : Nat, n < 100 → C 127 [.int .i64 n] (.str (dec n)) []) (m : Msh) (hz : smallM m = true → m.s.length ≤ 100 ∧ m.f.length ≤ 100) :
    C 222 [.agg (mshC m)] (if validM m then .tup [.sl (inR (lakL m)), .int .i64 0] else .tup [.nils, .int .i64 1]) [] := by
  have k := made_c hC dec hI m hz
  refine start hC (nf := N222_relief_Lakes) rfl rfl ?_
  simp only [mshC_eq] at k
  simp [N222_relief_Lakes, mshC_eq]
  refine callW_of k (.inr rfl) ?_
  cases hv : validM m
  · simp
  · have hsz := valid_small hv
    have kf := flow_c hC m hv
    have hfl : (flowL m).length = m.f.length := by simp [flowL]
    simp
    refine callW_of kf (.inr rfl) ?_
    simp
    refine loop_of Nat (fun i => [(6, .ref (.r 10096) 0 (lakT m i).length), (10096, .blk 1 (inR (lakT m i))), (18, .sl (inR (flowL m))), (19, .int .i64 m.f.length), (20, .int .i64 i)]) (fun i => i ≤ m.f.length) (fun i => m.f.length - i) 0 (by simp) (by simp [lakT, hfl]) ?_
    rintro i hi
    simp
    refine brB_of (fun g1 => ?_) (fun g1 => ?_) <;> simp at g1 <;> simp [g1]
    · have hw : IntKind.wrap .i64 ((i : Int) + 1) = ((i + 1 : Nat) : Int) := wrap_i64 (by omega) (by omega)
      have ll := lakT_le m i
      have hfi : (flowL m)[i]'(by omega) = runF m i := by simp [flowL]
      rw [inR_eq (flowL m)]
      simp [hfl, g1, hfi]
      by_cases e : runF m i = -2
      · simp [e, hw]
        have e2 := lakT_yes e
        have e3 : (lakT m (i + 1)).length = (lakT m i).length + 1 := by rw [← e2]; simp
        refine ⟨by omega, i + 1, by omega, by omega, ?_, ?_, ?_⟩
        · omega
        · rw [inR_add, e2]
        · omega
      · have e2 := lakT_no e
        simp [e, hw]
        refine ⟨i + 1, by omega, by omega, ?_⟩
        simp [← e2]
    · have hi2 : i = m.f.length := by omega
      subst hi2
      rfl
end Go.Gv

set_option linter.unusedSimpArgs false
namespace Go.Gv
theorem ex_v3 : validM (exM 3) = true := by decide +kernel
theorem ex_v0 : validM (exM 0) = true := by decide +kernel
theorem ex_s3 : sumL (exM 3) = [12, 9] := by decide +kernel
theorem ex_f0 : flowL (exM 0) = [-1, -1] := by decide +kernel
theorem ex_f3 : flowL (exM 3) = [1, -1] := by decide +kernel
theorem ex_p3 : pathL (exM 3) 0 = [0, 1] := by decide +kernel
variable {C : CC} (hC : Closed prog C)
include hC
set_option maxHeartbeats 2000000 in
theorem awake10_c (dec : Nat → List UInt8) (hI : ∀ n : Nat, n < 100 → C 127 [.int .i64 n] (.str (dec n)) []) : C 211 [] (.bool true) [] := by
  have hz : ∀ z, smallM (exM z) = true → (exM z).s.length ≤ 100 ∧ (exM z).f.length ≤ 100 := fun z _ => by simp [exM]
  have e3 := example_c hC 3
  have e0 := example_c hC 0
  have k1 := Sums_c hC dec hI (exM 3) (hz 3)
  have k2 := Flow_c hC dec hI (exM 0) (hz 0)
  have k3 := Flow_c hC dec hI (exM 3) (hz 3)
  have k4 := Path_c hC dec hI (exM 3) (hz 3) 0
  rw [ex_v3, ex_s3] at k1
  rw [ex_v0, ex_f0] at k2
  rw [ex_v3, ex_f3] at k3
  rw [ex_v3, ex_p3, show inR1 (exM 3).f.length 0 = true from rfl] at k4
  have q1 := eqI_c hC false false [12, 9] [12, 9] (by simp) (by simp)
  have q2 := eqI_c hC false false [-1, -1] [-1, -1] (by simp) (by simp)
  have q3 := eqI_c hC false false [1, -1] [1, -1] (by simp) (by simp)
  have q4 := eqI_c hC false false [0, 1] [0, 1] (by simp) (by simp)
  simp [inR_eq] at k1 k2 k3 k4 q1 q2 q3 q4
  obtain ⟨A3, hA3⟩ : ∃ A, A = mshC (exM 3) := ⟨_, rfl⟩
  obtain ⟨A0, hA0⟩ : ∃ A, A = mshC (exM 0) := ⟨_, rfl⟩
  have c3 : ∃ a b : Bool × List (List D), A3 = [slx a.1 a.2, slx b.1 b.2] := ⟨(false, _), (false, _), by rw [hA3, mshC_eq]; rfl⟩
  have c0 : ∃ a b : Bool × List (List D), A0 = [slx a.1 a.2, slx b.1 b.2] := ⟨(false, _), (false, _), by rw [hA0, mshC_eq]; rfl⟩
  rw [← hA3] at e3 k1 k3 k4
  rw [← hA0] at e0 k2
  obtain ⟨a, b, rfl⟩ := c3
  obtain ⟨a', b', rfl⟩ := c0
  refine start hC (nf := N211_law10_awake) rfl rfl ?_
  simp [N211_law10_awake]
  refine callW_of e3 (.inr rfl) ?_
  simp
  refine callW_of k1 (.inr rfl) ?_
  simp
  refine callW_of e0 (.inr rfl) ?_
  simp
  refine callW_of k2 (.inr rfl) ?_
  simp
  refine callW_of e3 (.inr rfl) ?_
  simp
  refine callW_of k3 (.inr rfl) ?_
  simp
  refine callW_of e3 (.inr rfl) ?_
  simp
  refine callW_of k4 (.inr rfl) ?_
  simp
  refine callW_of q1 (.inl rfl) ?_
  simp
  refine callW_of q2 (.inl rfl) ?_
  simp
  refine callW_of q3 (.inl rfl) ?_
  simp
  refine callW_of q4 (.inl rfl) ?_
  simp
end Go.Gv

set_option linter.unusedSimpArgs false
namespace Go.Gv
theorem flowL_at (m : Msh) (i : Nat) (h : i < (flowL m).length) : (flowL m)[i] = runF m i := by simp [flowL]
theorem flowL_len (m : Msh) : (flowL m).length = m.f.length := by simp [flowL]
variable {C : CC} (hC : Closed prog C)
include hC
end Go.Gv

set_option linter.unusedSimpArgs false
namespace Go.Gv
def qfl (m : Msh) (i : Nat) : List Int := (List.range i).map fun j => runF m j
@[simp] theorem qfl_take (m : Msh) (i : Nat) : List.take i (inR (qfl m i)) = inR (qfl m i) := List.take_of_length_le (by simp [qfl])
@[simp] theorem qfl_len (m : Msh) (i : Nat) : (qfl m i).length = i := by simp [qfl]
theorem qfl_add (m : Msh) (i : Nat) : qfl m i ++ [runF m i] = qfl m (i + 1) := by simp [qfl, List.range_succ]
variable {C : CC} (hC : Closed prog C)
include hC
theorem qFlow_c (m : Msh) (hv : validM m = true) (hm : m.f.length ≤ 100) : C 216 [.agg (mshC m)] (.sl (inR (flowL m))) [] := by
  have kn := qNeighbours_c hC m hm
  have kr := fun i hi => qRuns_c hC m hv i hi
  simp only [mshC_eq] at kn kr
  refine start hC (nf := N216_ref10_Flow) rfl rfl ?_
  simp [N216_ref10_Flow, mshC_eq]
  refine callW_of kn (.inr rfl) ?_
  simp
  refine loop_of Nat (fun i => [(1, .ptr (mshC m)), (3, .sl (nbA m)), (4, .ref (.r 10064) 0 i), (10064, .blk 1 (inR (qfl m i))), (5, .int .i64 i)]) (fun i => i ≤ m.f.length) (fun i => m.f.length - i) 0 (by simp) (by simp [mshC_eq, qfl]) ?_
  rintro i hi
  simp [mshC_eq]
  refine brB_of (fun g1 => ?_) (fun g1 => ?_) <;> simp at g1 <;> simp [g1]
  · have hw : IntKind.wrap .i64 ((i : Int) + 1) = ((i + 1 : Nat) : Int) := wrap_i64 (by omega) (by omega)
    refine callW_of (kr i g1) (.inl rfl) ?_
    simp
    have e := qfl_add m i
    refine ⟨by omega, i + 1, by omega, by omega, by simp [mshC_eq], rfl, ?_, hw⟩
    rw [← e, inR_add]
  · have hi2 : i = m.f.length := by omega
    subst hi2
    rfl
theorem qPath_c (m : Msh) (hm : m.f.length ≤ 100) (f : Int) (h0 : 0 ≤ f) (h1 : f < m.f.length) : C 218 [.sl (inR (flowL m)), .int .i64 f] (.sl (inR (pathL m f))) [] := by
  have lL : (flowL m).length = m.f.length := flowL_len m
  have hL := flowL_at m
  obtain ⟨L, eL⟩ : ∃ L, L = flowL m := ⟨_, rfl⟩
  rw [← eL] at lL hL ⊢
  refine start hC (nf := N218_ref10_Path) rfl rfl ?_
  simp [N218_ref10_Path]
  refine loop_of (List Int × Int × Nat) (fun s => [(0, .sl (inR L)), (5, .ref (.r 10080) 0 (s.1.length + 1)), (10080, .blk 1 (inR (s.1 ++ [s.2.1])))]) (fun s => s.1 ++ pth m s.2.2 s.2.1 = pathL m f ∧ 0 ≤ s.2.1 ∧ s.2.1 < m.f.length ∧ rnk m s.2.1.toNat < s.2.2 ∧ s.1.length + s.2.2 ≤ m.f.length) (fun s => s.2.2) ([], f, m.f.length) ⟨by simp [pathL], h0, h1, rnk_le (i := f.toNat) (by omega), by simp⟩ (by simp [inR_eq]) ?_
  rintro ⟨l, g, k⟩ ⟨h1, h2, h3, h4, h5⟩
  simp only at h1 h2 h3 h4 h5
  have wl : IntKind.wrap .i64 (l.length : Int) = (l.length : Int) := wrap_i64 rfl (by omega)
  have hrow : (List.map (fun n => [D.int IntKind.i64 n]) l ++ [[D.int IntKind.i64 g]])[l.length]? = some [D.int IntKind.i64 g] := by
    rw [List.getElem?_append_right (by simp)]; simp
  have gl : g.toNat < L.length := by omega
  have xr : L[g.toNat]?.getD 0 = runF m g.toNat := by rw [List.getElem?_eq_getElem gl]; exact hL _ _
  have xr2 : L[g.toNat] = runF m g.toNat := hL _ _
  simp [inR_eq, wl]
  rw [rowW_some hrow]
  simp [h2, gl, xr2]
  obtain ⟨k', rfl⟩ : ∃ k', k = k' + 1 := ⟨k - 1, by omega⟩
  rw [pth, if_neg (by omega)] at h1
  refine brB_of (fun g1 => ?_) (fun g1 => ?_) <;> simp at g1 <;> simp [g1]
  · simp [wl]
    rw [rowW_some hrow]
    simp [h2, gl, xr2]
    have hr : runF m g.toNat < m.f.length ∧ sumF m (runF m g.toNat).toNat < sumF m g.toNat := by
      rcases runF_bd m g.toNat with h | h | ⟨_, r2, r3⟩
      · omega
      · omega
      · exact ⟨r2, r3⟩
    have hk := rnk_lt (m := m) (i := g.toNat) (j := (runF m g.toNat).toNat) (by omega) hr.2
    refine ⟨by omega, by omega, l ++ [g], runF m g.toNat, ⟨k', ⟨by simpa using h1, g1, hr.1, by omega, by simp; omega⟩, by omega, by simp, ?_, ?_⟩⟩
    · rw [List.take_of_length_le (by simp)]
      simp
    · rfl
  · rw [pth_neg m k' g1] at h1
    rw [← h1]
    have e1 : (fun e => List.map cellV e) ∘ (fun n : Int => [D.int IntKind.i64 n]) = fun n : Int => [D.int IntKind.i64 n] := by funext n; simp
    rw [e1, List.take_of_length_le (by simp)]
    simp
end Go.Gv

set_option linter.unusedSimpArgs false
namespace Go.Gv
def largeM (m : Msh) : Bool := (decide ((80 : Int) < (m.s.length : Int)) && decide ((m.s.length : Int) ≤ 2000)) || (decide ((80 : Int) < (m.f.length : Int)) && decide ((m.f.length : Int) ≤ 4000)) || decide ((2010 : Int) < (m.s.length : Int)) || decide ((4010 : Int) < (m.f.length : Int))
theorem largeM_small {m : Msh} (h : largeM m = false) (hs : smallM m = true) : m.s.length ≤ 100 ∧ m.f.length ≤ 100 := by
  simp only [largeM, Bool.or_eq_false_iff, Bool.and_eq_false_iff, decide_eq_false_iff_not] at h
  simp only [smallM, Bool.and_eq_true, decide_eq_true_eq] at hs
  omega
variable {C : CC} (hC : Closed prog C)
include hC
set_option maxHeartbeats 2000000 in
theorem large_c (m : Msh) : C 212 [.agg (mshC m)] (.bool (largeM m)) [] := by
  obtain ⟨L, eL⟩ : ∃ L, L = largeM m := ⟨_, rfl⟩
  rw [← eL]
  unfold largeM at eL
  refine start hC (nf := N212_law10_large) rfl rfl ?_
  simp [N212_law10_large, mshC_eq]
  by_cases a1 : (80 : Int) < (m.s.length : Int) <;> by_cases a2 : (m.s.length : Int) ≤ 2000 <;> by_cases b1 : (80 : Int) < (m.f.length : Int) <;> by_cases b2 : (m.f.length : Int) ≤ 4000 <;> by_cases c : (2010 : Int) < (m.s.length : Int) <;> by_cases d : (4010 : Int) < (m.f.length : Int) <;> first
    | omega
    | (simp only [a1, a2, b1, b2, c, d, decide_true, decide_false, Bool.and_true, Bool.true_and, Bool.and_false, Bool.false_and, Bool.or_true, Bool.true_or, Bool.or_false, Bool.false_or] at eL
       subst eL
       simp [a1, a2, b1, b2, c, d])
end Go.Gv

set_option linter.unusedSimpArgs false
set_option maxRecDepth 4000
namespace Go.Gv
def mvS (x y z : Int) (s : Spt) : Spt := ⟨s.x + x, s.y + y, s.z + z⟩
def mvM (m : Msh) (x y z : Int) : Msh := ⟨false, m.s.map (mvS x y z), false, m.f⟩
def offB (n : Int) : Bool := decide (n < -67108864) || decide (67108864 < n)
def mvE (m : Msh) (x y z : Int) : Int := if validM m = true then (if ([x, y, z].any offB) = true then 5 else if (m.s.all fun s => rightS (mvS x y z s)) = true then 0 else 5) else 1
def mvRw (x y z : Int) (ss : List Spt) (i : Nat) : List Spt := (ss.take i).map (mvS x y z) ++ ss.drop i
def mvR (x y z : Int) (ss : List Spt) (i : Nat) : List (List D) := (mvRw x y z ss i).map sptC
variable {C : CC} (hC : Closed prog C)
include hC
end Go.Gv

set_option linter.unusedSimpArgs false
namespace Go.Gv
def trP (x y : Int) (p : Pnt) : Pnt := (p.1 + x, p.2 + y)
def trT (x y : Int) (t : Tri) : Tri := (trP x y t.1, trP x y t.2.1, trP x y t.2.2)
section
variable {m : Msh} {x y z : Int} (hv : validM m = true) (hr : ∀ i, i < m.s.length → rightS (mvS x y z (spt m i)) = true)
include hv hr
omit hr
omit hv in
end
end Go.Gv

set_option linter.unusedSimpArgs false
set_option maxRecDepth 4000
namespace Go.Gv
theorem natR_len (l : List Nat) : (natR l).length = l.length := by simp [natR]
theorem natR_get {l : List Nat} {i : Nat} (h : i < l.length) : (natR l)[i]? = some [.int .i64 ((l[i] : Nat) : Int)] := by simp [natR, h]
theorem natR_isC (l : List Nat) : ∀ e ∈ natR l, e.length = 1 ∧ ∀ c ∈ e, isC1 c = true := by
  intro e he
  obtain ⟨x, _, rfl⟩ := List.mem_map.1 he
  simp
theorem natR_isF (l : List Nat) : ∀ e ∈ natR l, ∀ c ∈ e, isF1 c = true := by
  intro e he c hc
  obtain ⟨x, _, rfl⟩ := List.mem_map.1 he
  simp at hc
  subst hc
  rfl
theorem inR_isC (l : List Int) : ∀ e ∈ inR l, e.length = 1 ∧ ∀ c ∈ e, isC1 c = true := by
  intro e he
  obtain ⟨x, _, rfl⟩ := List.mem_map.1 he
  simp
theorem inR_get {l : List Int} {i : Nat} {v : Int} (h : l[i]? = some v) : (inR l)[i]? = some [.int .i64 v] := by simp [inR, h]
theorem inR_set (l : List Int) (i : Nat) (v : Int) : (inR l).set i [.int .i64 v] = inR (l.set i v) := by simp [inR]
theorem inR_rep (n : Nat) : List.replicate n [D.int .i64 0] = inR (List.replicate n 0) := by simp [inR]
theorem slx_ne (b : Bool) {es : List (List D)} (h : es ≠ []) : slx b es = .sl es := by
  cases es with
  | nil => exact absurd rfl h
  | cons x r => cases b <;> rfl
theorem sumL_ne {m : Msh} (h : m.f.length ≠ 0) : inR (sumL m) ≠ [] := by
  intro e
  have h1 := congrArg List.length e
  rw [inR_len] at h1
  unfold sumL at h1
  rw [List.length_map, List.length_range] at h1
  exact h h1
def upT (f : Nat → Int) (n i : Nat) : List Int := (List.range n).map fun j => if j < i then f j else 0
theorem upT_len (f : Nat → Int) (n i : Nat) : (upT f n i).length = n := by simp [upT]
theorem upT_zero (f : Nat → Int) (n : Nat) : upT f n 0 = List.replicate n 0 := by
  unfold upT
  rw [List.eq_replicate_iff]
  refine ⟨by simp, fun b hb => ?_⟩
  obtain ⟨x, _, rfl⟩ := List.mem_map.1 hb
  simp
theorem upT_end (f : Nat → Int) (n : Nat) : upT f n n = (List.range n).map f := by
  unfold upT
  exact List.map_congr_left fun j hj => by rw [if_pos (List.mem_range.1 hj)]
theorem upT_set (f : Nat → Int) {n i : Nat} (h : i < n) : (upT f n i).set i (f i) = upT f n (i + 1) := by
  apply List.ext_getElem?
  intro x
  rw [List.getElem?_set]
  unfold upT
  simp only [List.getElem?_map, List.length_map, List.length_range]
  by_cases hx : x < n
  · by_cases ht : i = x
    · subst ht; simp [hx]
    · simp [hx, ht]
      by_cases h2 : x < i
      · simp [h2, show x < i + 1 by omega]
      · simp [h2, show ¬ x < i + 1 by omega]
  · have : (List.range n)[x]? = none := List.getElem?_eq_none (by simp; omega)
    rw [this]
    by_cases ht : i = x
    · omega
    · simp [ht]
theorem upT_nat (n : Nat) : inR (upT (fun j => (j : Int)) n n) = natR (List.range n) := by rw [upT_end]; simp [inR, natR]
def SrtG (C : CC) : Prop := ∀ (m : Msh) (cs : List D), 0 < m.f.length → m.f.length < 2 ^ 62 → (∀ a b : Nat, a < m.f.length → b < m.f.length → C 375 (.int .i64 a :: .int .i64 b :: cs) (.int .i64 (sumF m b - sumF m a)) []) → ∃ Q, Ord m Q ∧ C 374 [.own 1 (natR (List.range m.f.length)), .fn 375 cs] .any [.own 1 (natR Q), .nilp]
variable {C : CC} (hC : Closed prog C)
include hC
theorem mtwice_c (m : Msh) (hv : validM m = true) (i : Nat) (hi : i < m.f.length) : C 376 [.agg (mshC m), .agg (fceC (fce m i))] (.int .i64 (twF m i)) [] := by
  have ht := valid_T hv hi
  have k1 := mtri_c hC m (fce m i) (valid_in hv hi)
  unfold okT at ht
  simp only [Bool.and_eq_true] at ht
  have k2 := mturn_c hC ht.1.1 ht.1.2 ht.2
  have e : turnP (triF m (fce m i)).1 (triF m (fce m i)).2.1 (triF m (fce m i)).2.2 = twF m i := rfl
  rw [e] at k2
  generalize triF m (fce m i) = t at *
  simp only [mshC_eq, fceC_eq, triD] at k1
  simp only [ptD] at k2
  refine start hC (nf := N376_mesh_twice) rfl rfl ?_
  simp [N376_mesh_twice, mshC_eq, fceC_eq]
  refine callW_of k1 (.inl rfl) ?_
  simp
  refine callW_of k2 (.inl rfl) ?_
  simp
theorem isFace_c (m : Msh) (x : Int) : C 377 [.agg (mshC m), .int .i64 x] (.bool (inR1 m.f.length x)) [] := by
  refine start hC (nf := N377_mesh_isFace) rfl rfl ?_
  unfold inR1
  simp [N377_mesh_isFace, mshC_eq]
  by_cases h : 0 ≤ x
  · simp [h]
  · simp [h]
theorem Twice_c (dec : Nat → List UInt8) (hI : ∀ n : Nat, n < 100 → C 127 [.int .i64 n] (.str (dec n)) []) (m : Msh) (hz : smallM m = true → m.s.length ≤ 100 ∧ m.f.length ≤ 100) (hv : validM m = true) (i : Nat) (hi : i < m.f.length) : C 373 [.agg (mshC m), .int .i64 i] (.tup [.int .i64 (twF m i), .int .i64 0]) [] := by
  have k1 := mValid_c hC dec hI m hz
  rw [hv] at k1
  have k2 := isFace_c hC m i
  have e : inR1 m.f.length (i : Int) = true := by simp [inR1, hi]
  rw [e] at k2
  have k3 := mtwice_c hC m hv i hi
  simp only [mshC_eq, fceC_eq] at k1 k2 k3
  refine start hC (nf := N373_mesh_Twice) rfl rfl ?_
  simp [N373_mesh_Twice, mshC_eq]
  refine callW_of k1 (.inl rfl) ?_
  simp
  refine callW_of k2 (.inl rfl) ?_
  simp [hi, fceC_eq]
  refine callW_of k3 (.inl rfl) ?_
  simp
  exact indW_of (by decide +kernel)
theorem acc1_c (m : Msh) (hv : validM m = true) (a b : Nat) (ha : a < m.f.length) (hb : b < m.f.length) : C 375 [.int .i64 a, .int .i64 b, .ptr [.ptr (grC m)]] (.int .i64 (sumF m b - sumF m a)) [] := by
  have ba := sumF_bd hv ha
  have bb := sumF_bd hv hb
  have w : IntKind.wrap .i64 (sumF m b - sumF m a) = sumF m b - sumF m a := wrap_i64 rfl (by omega)
  have h0 : m.f.length ≠ 0 := by omega
  have hsl : slx true (smR m m.f.length) = .sl (inR (sumL m)) := by
    rw [smR_L]
    exact slx_ne true (sumL_ne h0)
  have ga : (inR (sumL m))[a]? = some [.int .i64 (sumF m a)] := inR_get (by simp [sumL, ha])
  have gb : (inR (sumL m))[b]? = some [.int .i64 (sumF m b)] := inR_get (by simp [sumL, hb])
  refine start hC (nf := N375_relief_Accumulated_1) rfl rfl ?_
  simp [N375_relief_Accumulated_1, grC_eq, hsl, idxW_some ga, idxW_some gb, w]
  exact indW_of (by decide +kernel)
end Go.Gv

set_option linter.unusedSimpArgs false
set_option maxRecDepth 4000
namespace Go.Gv
variable {C : CC} (hC : Closed prog C)
include hC
set_option maxHeartbeats 2000000 in
theorem AccumulatedQ_c (dec : Nat → List UInt8) (hI : ∀ n : Nat, n < 100 → C 127 [.int .i64 n] (.str (dec n)) []) (m : Msh) (hz : smallM m = true → m.s.length ≤ 100 ∧ m.f.length ≤ 100) (hQ : validM m = true → m.f.length ≤ 100 → ∃ Q, Ord m Q ∧ C 374 [.own 1 (natR (List.range m.f.length)), .fn 375 [.ptr [.ptr (grC m)]]] .any [.own 1 (natR Q), .nilp]) : C 371 [.agg (mshC m)] (if validM m then .tup [.sl (inR (gatL m)), .int .i64 0] else .tup [.nils, .int .i64 1]) [] := by
  have k1 := made_c hC dec hI m hz
  simp only [mshC_eq] at k1
  cases hv : validM m
  · rw [hv] at k1
    simp at k1
    refine start hC (nf := N371_relief_Accumulated) rfl rfl ?_
    simp [N371_relief_Accumulated, mshC_eq]
    refine callW_of k1 (.inr rfl) ?_
    simp
  have hm := (hz (by simp only [validM, Bool.and_eq_true] at hv; exact hv.1)).2
  rw [hv] at k1
  simp only [if_true] at k1
  have hb := tot_bd hv hm
  obtain ⟨Q, hO, k4⟩ := hQ hv hm
  have kF := flow_c hC m hv
  have hQl := hO.len
  have hsl : ∃ d, d = slx true (smR m m.f.length) := ⟨_, rfl⟩
  have gE : grC m = [.sl (nbA m), slx true (smR m m.f.length), slx true (ctR m m.f.length)] := grC_eq m
  have kT := fun i hi => Twice_c hC dec hI m hz hv i hi
  simp only [mshC_eq] at kT
  have hsm : (smR m m.f.length).length = m.f.length := smR_len m m.f.length
  have hge := natR_isC Q
  have hgf := natR_isF Q
  have hQR := natR_len Q
  have hQg : ∀ (p : Nat) (h : p < Q.length), (natR Q)[p]? = some [.int .i64 ((Q[p] : Nat) : Int)] := fun p h => natR_get h
  have hfl : ∀ (i : Nat) (h : i < m.f.length), (inR (flowL m))[i]? = some [.int .i64 (runF m i)] := fun i h => inR_get (by simp [flowL, h])
  generalize hRQ : natR Q = RQ at *
  refine start hC (nf := N371_relief_Accumulated) rfl rfl ?_
  simp [N371_relief_Accumulated, mshC_eq]
  rw [gE] at k1 k4 kF
  have hSl : (slx true (smR m m.f.length) = .nils ∧ m.f.length = 0) ∨ slx true (smR m m.f.length) = .sl (smR m m.f.length) := by
    cases hS : smR m m.f.length with
    | nil => exact .inl ⟨rfl, by have := congrArg List.length hS; rw [smR_len] at this; simpa using this⟩
    | cons e r => exact .inr rfl
  refine callW_of k1 (.inr rfl) ?_
  simp [hsm]
  generalize slx true (smR m m.f.length) = Ga at *
  generalize slx true (ctR m m.f.length) = Gb at *
  generalize nbA m = Gc at *
  refine ⟨by omega, ?_⟩
  have r0 := inR_rep m.f.length
  have u1 := upT_zero (twF m) m.f.length
  have u2 := upT_zero (fun j => (j : Int)) m.f.length
  have v1 : ∀ i, i < m.f.length → (inR (upT (twF m) m.f.length i)).set i [.int .i64 (twF m i)] = inR (upT (twF m) m.f.length (i + 1)) := fun i h => by rw [inR_set, upT_set _ h]
  have v2 : ∀ i, i < m.f.length → (inR (upT (fun j => (j : Int)) m.f.length i)).set i [.int .i64 (i : Int)] = inR (upT (fun j => (j : Int)) m.f.length (i + 1)) := fun i h => by rw [inR_set]; exact congrArg inR (upT_set (fun j => (j : Int)) h)
  have x1 : ∀ i, (inR (upT (twF m) m.f.length i)).length = m.f.length := fun i => by rw [inR_len, upT_len]
  have x2 : ∀ i, (inR (upT (fun j => (j : Int)) m.f.length i)).length = m.f.length := fun i => by rw [inR_len, upT_len]
  have y1 : inR (upT (twF m) m.f.length m.f.length) = inR (acR m []) := by rw [upT_end, acR_nil]
  have y2 := upT_nat m.f.length
  have wA : ∀ i j, j < m.f.length → (inR (upT (twF m) m.f.length i))[j]? = some [.int .i64 (if j < i then twF m j else 0)] := fun i j h => inR_get (by simp [upT, h])
  have wB : ∀ i j, j < m.f.length → (inR (upT (fun j => (j : Int)) m.f.length i))[j]? = some [.int .i64 (if j < i then (j : Int) else 0)] := fun i j h => inR_get (by simp [upT, h])
  rw [r0]
  generalize hA : (fun i => inR (upT (twF m) m.f.length i)) = A
  have hA' : ∀ i, inR (upT (twF m) m.f.length i) = A i := fun i => by rw [← hA]
  generalize hB : (fun i => inR (upT (fun j => (j : Int)) m.f.length i)) = B
  have hB' : ∀ i, inR (upT (fun j => (j : Int)) m.f.length i) = B i := fun i => by rw [← hB]
  simp only [hA', hB'] at v1 v2 x1 x2 y1 y2 wA wB
  rw [← u1, hA']
  clear hA hB
  have z0 : A 0 = B 0 := by rw [← hA', ← hB', u1, u2]
  refine loop_of Nat (fun i => [(1, .ptr [slx m.sn (m.s.map sptC), slx m.fn (m.f.map fceC)]), (4, .adr (.r 10064) 0 0), (6, .ref (.r 10096) 0 m.f.length), (7, .ref (.r 10112) 0 m.f.length), (34, .int .i64 m.f.length), (35, .int .i64 i), (10064, .blk 1 [[.ptr [.sl Gc, Ga, Gb]]]), (10096, .blk 1 (A i)), (10112, .blk 1 (B i))])
    (fun i => i ≤ m.f.length) (fun i => m.f.length - i) 0 (by simp) (by simp [z0]) ?_
  intro i hi
  simp
  refine brB_of (fun h => ?_) (fun h => ?_) <;> simp at h
  · have hw : IntKind.wrap .i64 ((i : Int) + 1) = ((i + 1 : Nat) : Int) := wrap_i64 (by omega) (by omega)
    have kTi := kT i h
    have e1 := v1 i h
    have e2 := v2 i h
    have f1 := x1 i
    have f2 := x2 i
    simp [h]
    refine callW_of kTi (.inl rfl) ?_
    obtain ⟨p, gA⟩ : ∃ p, (A i)[i]'(by omega) = [.int .i64 p] := by
      have g2 := wA i i h
      exact ⟨_, (List.getElem?_eq_some_iff.1 g2).2⟩
    obtain ⟨q, gB⟩ : ∃ p, (B i)[i]'(by omega) = [.int .i64 p] := by
      have g2 := wB i i h
      exact ⟨_, (List.getElem?_eq_some_iff.1 g2).2⟩
    simp [f1, f2, h, e1, e2, hw]
    exact ⟨by rw [gA]; exact Nat.le_refl _, by rw [gB]; exact Nat.le_refl _, i + 1, by omega, by omega, by omega, by rw [gA]; exact e1, by rw [gB]; exact e2⟩
  · have ei : i = m.f.length := by omega
    subst ei
    have n0 := natR_len (List.range m.f.length)
    rw [List.length_range] at n0
    have n1 := natR_isC (List.range m.f.length)
    simp [h, y1, y2]
    refine ⟨n0, fun e he => (n1 e he).2, ?_⟩
    refine callUW_of k4 (.inr (fun e he c hc => hgf e he c hc)) (by rw [hQR, n0, hQl]) hge ?_
    simp
    refine callW_of kF (.inr rfl) ?_
    simp [hQR, hQl]
    generalize inR (flowL m) = Fl at *
    refine loop_of Nat (fun p => [(6, .ref (.r 10096) 0 m.f.length), (9, .sl Fl), (60, .ref (.r 10960) 0 m.f.length), (61, .int .i64 m.f.length), (62, .int .i64 p), (10096, .blk 1 (inR (acR m (Q.take p)))), (10960, .blk 1 RQ)])
      (fun p => p ≤ m.f.length) (fun p => m.f.length - p) 0 (by simp) (by simp) ?_
    intro p hp
    simp
    refine brB_of (fun h2 => ?_) (fun h2 => ?_) <;> simp at h2
    · have hw : IntKind.wrap .i64 ((p : Int) + 1) = ((p + 1 : Nat) : Int) := wrap_i64 (by omega) (by omega)
      have hpQ : p < Q.length := by omega
      have hx := hO.lt hpQ
      have hq := hQg p hpQ
      have hf := hfl Q[p] hx
      have hat := accP_at hO hpQ
      have htk : Q.take (p + 1) = Q.take p ++ [Q[p]] := List.take_succ_eq_append_getElem hpQ
      have hlA : (inR (acR m (Q.take p))).length = m.f.length := by rw [inR_len, acR_len]
      by_cases hneg : runF m Q[p] < 0
      · have hst := acR_stay (m := m) (P := Q.take p) (i := Q[p]) hneg
        rw [← htk] at hst
        simp [h2, rowW_some hq, hQR, hQl, idxW_some hf, show ¬ 0 ≤ runF m Q[p] by omega, hw]
        exact ⟨p + 1, by omega, by omega, rfl, by rw [hst]⟩
      · obtain ⟨t, ht⟩ : ∃ t : Nat, runF m Q[p] = (t : Int) := ⟨(runF m Q[p]).toNat, by omega⟩
        have htl : t < m.f.length := by rcases runF_bd m Q[p] with e | e | ⟨_, e, _⟩ <;> omega
        have gt : (inR (acR m (Q.take p)))[t]? = some [.int .i64 (accP m (Q.take p) t)] := inR_get (acR_get m _ htl)
        have gi : (inR (acR m (Q.take p)))[Q[p]]? = some [.int .i64 (gatF m Q[p])] := inR_get (by rw [acR_get m _ hx, hat])
        have hse := acR_give (m := m) (P := Q.take p) (i := Q[p]) ht
        rw [← htk] at hse
        have hse2 : (inR (acR m (Q.take p))).set t [.int .i64 (accP m (Q.take p) t + gatF m Q[p])] = inR (acR m (Q.take (p + 1))) := by rw [inR_set, hse]
        have hbd := accP_bd hv hO (p := p + 1) htl
        rw [htk, accP_snoc] at hbd
        have hgv : giv m t Q[p] = gatF m Q[p] := by unfold giv; rw [if_pos ht]
        rw [hgv] at hbd
        have w1 : IntKind.wrap .i64 (accP m (Q.take p) t + gatF m Q[p]) = accP m (Q.take p) t + gatF m Q[p] := wrap_i64 rfl (by omega)
        obtain ⟨_, gt2⟩ := List.getElem?_eq_some_iff.1 gt
        generalize inR (acR m (Q.take p)) = R at *
        simp [h2, rowW_some hq, hQR, hQl, idxW_some hf, ht, rowW_some gt, rowW_some gi, hlA, htl, hx, w1, gt2, hse2, hw]
        exact ⟨indW_of (by decide +kernel), p + 1, by omega, by omega, by omega, rfl⟩
    · have ep : p = m.f.length := by omega
      subst ep
      have hfin : inR (acR m (Q.take m.f.length)) = inR (gatL m) := by rw [List.take_of_length_le (by omega), acR_all hO.perm]
      have hgl : (inR (gatL m)).length = m.f.length := by simp [gatL]
      simp [h2, hfin]
      exact ⟨by simp [gatL], by rw [List.take_of_length_le (by omega)]⟩
theorem qLakes_c (m : Msh) (hm : m.f.length < 2 ^ 40) : C 397 [.sl (inR (flowL m))] (.sl (inR (lakL m))) [] := by
  have hlen : (inR (flowL m)).length = m.f.length := by simp [flowL]
  have hfl : ∀ (i : Nat) (h : i < m.f.length), (inR (flowL m))[i]? = some [.int .i64 (runF m i)] := fun i h => inR_get (by simp [flowL, h])
  generalize inR (flowL m) = R at *
  refine start hC (nf := N397_ref10_Lakes) rfl rfl ?_
  simp [N397_ref10_Lakes]
  refine loop_of Nat (fun i => [(0, .sl R), (3, .ref (.r 10048) 0 (lakT m i).length), (4, .int .i64 i), (10048, .blk 1 (inR (lakT m i)))]) (fun i => i ≤ m.f.length) (fun i => m.f.length - i) 0 (by simp) (by simp [lakT]) ?_
  intro i hi
  simp [hlen]
  refine brB_of (fun h => ?_) (fun h => ?_) <;> simp at h
  · have hw : IntKind.wrap .i64 ((i : Int) + 1) = ((i + 1 : Nat) : Int) := wrap_i64 (by omega) (by omega)
    have hle := lakT_le m i
    have hic := inR_isC (lakT m i)
    by_cases c : runF m i = -2
    · have hy := lakT_yes (m := m) (i := i) c
      have hy' : inR (lakT m i) ++ [[.int .i64 (i : Int)]] = inR (lakT m (i + 1)) := by rw [inR_add, hy]
      have hl2 : (lakT m i).length + 1 = (lakT m (i + 1)).length := by rw [← hy]; simp
      simp [h, idxW_some (hfl i h), c, hw]
      exact ⟨by omega, i + 1, by omega, by omega, hl2, by omega, hy'⟩
    · have hn := lakT_no (m := m) (i := i) c
      simp [h, idxW_some (hfl i h), c, hw]
      exact ⟨i + 1, by omega, by omega, by rw [← hn]; simp⟩
  · have ei : i = m.f.length := by omega
    subst ei
    simp [h, lakL]
end Go.Gv

set_option linter.unusedSimpArgs false
set_option maxRecDepth 4000
namespace Go.Gv
theorem pth_lt (m : Msh) : ∀ (k : Nat) (f : Int), 0 ≤ f → f < m.f.length → ∀ y ∈ pth m k f, 0 ≤ y ∧ y < m.f.length
  | 0, f, _, _, y, h => by simp [pth] at h
  | k + 1, f, h0, h1, y, h => by
    rw [pth_succ m k h0] at h
    rcases List.mem_cons.1 h with rfl | h
    · exact ⟨h0, h1⟩
    · rcases runF_bd m f.toNat with e | e | ⟨e1, e2, _⟩
      · rw [pth_neg m k (by omega)] at h; cases h
      · rw [pth_neg m k (by omega)] at h; cases h
      · exact pth_lt m k _ e1 e2 y h
theorem sum0_R (m : Msh) : inR (refR m 0 []) = List.replicate m.f.length [.int .i64 0] := by rw [refR_zero, ← inR_rep]
variable {C : CC} (hC : Closed prog C)
include hC
theorem qTw_c (m : Msh) (hv : validM m = true) (i : Nat) (hi : i < m.f.length) : C 350 [.agg (mshC m), .int .i64 i] (.int .i64 (twF m i)) [] := by
  have k : C 293 [.agg (mshC m), .agg (fceC (fce m i))] (.int .i64 (twF m i)) [] := rturn_c hC m (fce m i) (valid_in hv hi) (okF_okT (valid_f hv hi).1)
  simp only [mshC_eq, fceC_eq] at k
  refine start hC (nf := N350_ref09_Twice) rfl rfl ?_
  simp [N350_ref09_Twice, mshC_eq, hi, fceC_eq]
  refine callW_of k (.inl rfl) ?_
  simp
  exact indW_of (by decide +kernel)
theorem qSums_c (m : Msh) (hv : validM m = true) (hm : m.f.length ≤ 100) : C 281 [.agg (mshC m)] (.sl (inR (sumL m))) [] := by
  refine start hC (nf := N281_ref10_Sums) rfl rfl ?_
  simp [N281_ref10_Sums, mshC_eq]
  refine loop_of Nat (fun i => [(1, .ptr (mshC m)), (3, .ref (.r 10048) 0 i), (4, .int .i64 i), (10048, .blk 1 (smR m i))]) (fun i => i ≤ m.f.length) (fun i => m.f.length - i) 0 (by simp) (by simp [mshC_eq, smR]) ?_
  intro i hi
  simp [mshC_eq]
  refine brB_of (fun h => ?_) (fun h => ?_) <;> simp at h
  · have hw : IntKind.wrap .i64 ((i : Int) + 1) = ((i + 1 : Nat) : Int) := wrap_i64 (by omega) (by omega)
    have k1 := qSum_c hC m hv i h
    have ha := smR_add m i
    simp only [mshC_eq] at k1
    simp [h]
    refine callW_of k1 (.inl rfl) ?_
    simp [hw]
    exact ⟨by omega, i + 1, by omega, by omega, by simp [mshC_eq], by omega, by omega, ha⟩
  · have ei : i = m.f.length := by omega
    subst ei
    have e := smR_L m
    have hl : (inR (sumL m)).length = m.f.length := by simp [sumL]
    simp [h, e]
    exact ⟨by simp [sumL], List.take_of_length_le (by omega)⟩
set_option maxHeartbeats 2000000 in
theorem qAccumulated_c (m : Msh) (hv : validM m = true) (hm : m.f.length ≤ 100) : C 398 [.agg (mshC m)] (.sl (inR (gatL m))) [] := by
  have k1 := qFlow_c hC m hv hm
  have k2 := fun i (h : i < m.f.length) => qPath_c hC m hm (i : Int) (by omega) (by omega)
  have k3 := fun i h => qTw_c hC m hv i h
  have hb := tot_bd hv hm
  have hlF : (inR (flowL m)).length = m.f.length := by simp [flowL]
  have hlR : ∀ i l, (inR (refR m i l)).length = m.f.length := fun i l => by rw [inR_len, refR_len]
  have hr0 := sum0_R m
  simp only [mshC_eq] at k1 k3
  generalize inR (flowL m) = Fl at *
  refine start hC (nf := N398_ref10_Accumulated) rfl rfl ?_
  simp [N398_ref10_Accumulated, mshC_eq]
  refine callW_of k1 (.inr rfl) ?_
  simp [hlF]
  refine ⟨by omega, ?_⟩
  refine loop_of Nat (fun i => [(1, .ptr (mshC m)), (3, .sl Fl), (4, .ref (.r 10064) 0 m.f.length), (5, .int .i64 i), (10064, .blk 1 (inR (refR m i [])))]) (fun i => i ≤ m.f.length) (fun i => m.f.length - i) 0 (by simp) (by simp [mshC_eq, hr0]) ?_
  intro i hi
  simp [hlF]
  refine brB_of (fun h => ?_) (fun h => ?_) <;> simp at h
  rotate_left
  · have ei : i = m.f.length := by omega
    subst ei
    have hg : (inR (gatL m)).length = m.f.length := by simp [gatL]
    simp [h, refR_all]
    exact ⟨by simp [gatL], List.take_of_length_le (by omega)⟩
  have hw : IntKind.wrap .i64 ((i : Int) + 1) = ((i + 1 : Nat) : Int) := wrap_i64 (by omega) (by omega)
  have k2i := k2 i h
  have k3i := k3 i h
  have hnext := refR_next m i
  have hpl := pth_len m m.f.length (i : Int)
  have hpb := pth_lt m m.f.length (i : Int) (by omega) (by omega)
  have hrb := fun k x => refA_bd hv h k x
  rw [show pth m m.f.length (i : Int) = pathL m (i : Int) from rfl] at hpl hpb
  generalize pathL m (i : Int) = p at *
  have hpg : ∀ (k : Nat) (hk : k < p.length), (inR p)[k]? = some [.int .i64 p[k]] := fun k hk => inR_get (by simp [hk])
  simp [h]
  refine callW_of k2i (.inr rfl) ?_
  simp
  refine loop_of Nat (fun k => [(1, .ptr (mshC m)), (3, .sl Fl), (4, .ref (.r 10064) 0 m.f.length), (5, .int .i64 i), (6, .sl (inR p)), (7, .int .i64 k), (10064, .blk 1 (inR (refR m i (p.take k))))]) (fun k => k ≤ p.length) (fun k => p.length - k) 0 (by simp) (by simp [mshC_eq]) ?_
  intro k hk
  simp
  refine brB_of (fun h2 => ?_) (fun h2 => ?_) <;> simp at h2
  · have hwk : IntKind.wrap .i64 ((k : Int) + 1) = ((k + 1 : Nat) : Int) := wrap_i64 (by omega) (by omega)
    have hg := hpg k h2
    obtain ⟨b0, b1⟩ := hpb p[k] (List.getElem_mem h2)
    have htk : p.take (k + 1) = p.take k ++ [p[k]] := List.take_succ_eq_append_getElem h2
    obtain ⟨t, ht⟩ : ∃ t : Nat, p[k] = (t : Int) := ⟨p[k].toNat, by omega⟩
    rw [ht] at hg htk b1
    have htl : t < m.f.length := by omega
    have gt : (inR (refR m i (p.take k)))[t]? = some [.int .i64 (refA m i (p.take k) t)] := inR_get (refR_get m i _ htl)
    have hse := refR_set m i (p.take k) t
    rw [← htk] at hse
    have hse2 : (inR (refR m i (p.take k))).set t [.int .i64 (refA m i (p.take k) t + twF m i)] = inR (refR m i (p.take (k + 1))) := by rw [inR_set, hse]
    have hbd := hrb (k + 1) t
    have hA : refA m i (p.take (k + 1)) t = refA m i (p.take k) t + twF m i := by
      unfold refA
      rw [htk, cntN_snoc, if_pos rfl, Int.mul_add]
      omega
    rw [hA] at hbd
    have w1 : IntKind.wrap .i64 (refA m i (p.take k) t + twF m i) = refA m i (p.take k) t + twF m i := wrap_i64 rfl (by omega)
    obtain ⟨_, gt2⟩ := List.getElem?_eq_some_iff.1 gt
    have hlk := hlR i (p.take k)
    generalize inR (refR m i (p.take k)) = R at *
    simp [h2, idxW_some hg, rowW_some gt, hlk, htl, mshC_eq]
    refine callW_of k3i (.inl rfl) ?_
    simp [w1, hlk, htl, gt2, hse2, hwk]
    exact ⟨indW_of (by decide +kernel), k + 1, by omega, by omega, by simp [mshC_eq]⟩
  · have ek : k = p.length := by omega
    subst ek
    simp [h2, hnext, hw]
    exact ⟨i + 1, by omega, by omega, by simp [mshC_eq]⟩
end Go.Gv

set_option linter.unusedSimpArgs false
set_option maxRecDepth 4000
namespace Go.Gv
def SrtZ (C : CC) : Prop := ∀ cs : List D, C 374 [.sl [], .fn 375 cs] (.tup []) [] → C 374 [.own 1 [], .fn 375 cs] .any [.own 1 [], .nilp]
variable {C : CC} (hC : Closed prog C)
include hC
set_option maxHeartbeats 4000000 in
theorem ReliefSums_cQ (hA : ∀ m : Msh, (smallM m = true → m.s.length ≤ 100 ∧ m.f.length ≤ 100) → C 371 [.agg (mshC m)] (if validM m then .tup [.sl (inR (gatL m)), .int .i64 0] else .tup [.nils, .int .i64 1]) []) (dec : Nat → List UInt8) (hI : ∀ n : Nat, n < 100 → C 127 [.int .i64 n] (.str (dec n)) []) (m : Msh) : C 395 [.agg (mshC m)] (.bool true) [] := by
  have ka := awake10_c hC dec hI
  have kl := large_c hC m
  refine start hC (nf := N395_law10_ReliefSums) rfl rfl ?_
  simp only [mshC_eq] at kl
  simp [N395_law10_ReliefSums, mshC_eq]
  refine callW_of ka (.inl rfl) ?_
  simp
  refine callW_of kl (.inl rfl) ?_
  cases hl : largeM m
  rotate_left
  · simp
  have hz : smallM m = true → m.s.length ≤ 100 ∧ m.f.length ≤ 100 := fun h => largeM_small hl h
  have k1 := Sums_c hC dec hI m hz
  have k2 := Lakes_c hC dec hI m hz
  have k3 := hA m hz
  have k4 := rValid_c hC m hz
  simp only [mshC_eq] at k1 k2 k3 k4
  cases hv : validM m
  · rw [hv] at k1 k2 k3 k4
    simp at k1 k2 k3
    simp
    refine callW_of k1 (.inr rfl) ?_
    simp
    refine callW_of k2 (.inr rfl) ?_
    simp
    refine callW_of k3 (.inr rfl) ?_
    simp
    refine callW_of k4 (.inl rfl) ?_
    simp
  have hm : m.f.length ≤ 100 := (hz (by simp only [validM, Bool.and_eq_true] at hv; exact hv.1)).2
  have q1 := qSums_c hC m hv hm
  have q2 := qFlow_c hC m hv hm
  have q3 := qLakes_c hC m (by omega)
  have q4 := qAccumulated_c hC m hv hm
  have lS : (sumL m).length = m.f.length := by simp [sumL]
  have lG : (gatL m).length = m.f.length := by simp [gatL]
  have lL : (lakL m).length ≤ m.f.length := lakT_le m m.f.length
  have r1 := fun b => eqI_c hC b false (sumL m) (sumL m) (by omega) (by omega)
  have r2 := eqI_c hC false false (lakL m) (lakL m) (by omega) (by omega)
  have r3 := eqI_c hC false false (gatL m) (gatL m) (by omega) (by omega)
  simp only [← inR_eq] at r1 r2 r3
  have r1 := r1 true
  simp at r1 r2 r3
  rw [hv] at k1 k2 k3 k4
  simp only [mshC_eq, if_true] at k1 k2 k3 q1 q2 q4
  have hd : slx true (inR (sumL m)) = .nils ∨ ∃ R, slx true (inR (sumL m)) = .sl R := by
    cases h : inR (sumL m) with
    | nil => exact .inl rfl
    | cons e r => exact .inr ⟨_, rfl⟩
  generalize slx true (inR (sumL m)) = A1 at *
  generalize inR (sumL m) = A2 at *
  generalize inR (lakL m) = A3 at *
  generalize inR (gatL m) = A4 at *
  generalize inR (flowL m) = A5 at *
  rcases hd with rfl | ⟨A1, rfl⟩
  all_goals
    simp [mshC_eq]
    refine callW_of k1 (.inr rfl) ?_
    simp [mshC_eq]
    refine callW_of k2 (.inr rfl) ?_
    simp [mshC_eq]
    refine callW_of k3 (.inr rfl) ?_
    simp [mshC_eq]
    refine callW_of k4 (.inl rfl) ?_
    simp [mshC_eq]
    refine callW_of q1 (.inr rfl) ?_
    simp
    refine callW_of r1 (.inl rfl) ?_
    simp [mshC_eq]
    refine callW_of q2 (.inr rfl) ?_
    simp
    refine callW_of q3 (.inr rfl) ?_
    simp
    refine callW_of r2 (.inl rfl) ?_
    simp [mshC_eq]
    refine callW_of q4 (.inr rfl) ?_
    simp
    refine callW_of r3 (.inl rfl) ?_
    simp
end Go.Gv

set_option linter.unusedSimpArgs false
set_option maxRecDepth 4000
namespace Go.Gv
variable {C : CC} (hC : Closed prog C)
include hC
theorem bitsLen0_c : C 379 [.int .u64 0] (.int .i64 0) [] := by
  have k := Len64_c hC 0 (by omega)
  simp at k
  refine start hC (nf := N379_math_bits_Len) rfl rfl ?_
  simp [N379_math_bits_Len]
  refine callW_of k (.inl rfl) ?_
  simp
  decide
theorem ins0_c (cs : List D) : C 380 [.sl [], .int .i64 0, .int .i64 0, .fn 375 cs] (.tup []) [] := by
  have w1 : IntKind.wrap .i64 1 = 1 := by decide
  refine start hC (nf := N380_slices_insertionSortCmpFunc_int) rfl rfl ?_
  simp [N380_slices_insertionSortCmpFunc_int, w1]
  refine loop_of Unit (fun _ => [(0, .sl []), (1, .int .i64 0), (2, .int .i64 0), (3, .fn 375 cs), (8, .int .i64 1)]) (fun _ => True) (fun _ => 0) () trivial (by simp) ?_
  intro _ _
  simp
theorem pdq0_c (cs : List D) : C 378 [.sl [], .int .i64 0, .int .i64 0, .int .i64 0, .fn 375 cs] (.tup []) [] := by
  have k := ins0_c hC cs
  have w0 : IntKind.wrap .i64 0 = 0 := by decide
  refine start hC (nf := N378_slices_pdqsortCmpFunc_int) rfl rfl ?_
  simp [N378_slices_pdqsortCmpFunc_int]
  refine loop_of Unit (fun _ => [(0, .sl []), (1, .int .i64 0), (2, .int .i64 0), (3, .int .i64 0), (4, .fn 375 cs), (10, .bool true), (11, .bool true)]) (fun _ => True) (fun _ => 0) () trivial (by simp) ?_
  intro _ _
  simp [w0]
  refine callW_of k (.inl rfl) ?_
  simp
theorem sort0_c (cs : List D) : C 374 [.sl [], .fn 375 cs] (.tup []) [] := by
  have k1 := bitsLen0_c hC
  have k2 := pdq0_c hC cs
  have w0 : IntKind.wrap .u64 0 = 0 := by decide
  refine start hC (nf := N374_slices_SortFunc__int_int) rfl rfl ?_
  simp [N374_slices_SortFunc__int_int, w0]
  refine callW_of k1 (.inl rfl) ?_
  simp
  refine callW_of k2 (.inl rfl) ?_
  simp
end Go.Gv

set_option linter.unusedSimpArgs false
set_option maxRecDepth 4000
namespace Go.Gv
variable {C : CC} (hC : Closed prog C)
include hC
theorem ReliefSums_cS (hs0 : ∀ cs : List D, C 374 [.sl [], .fn 375 cs] (.tup []) []) (hG : SrtG C) (hZ : SrtZ C) (dec : Nat → List UInt8) (hI : ∀ n : Nat, n < 100 → C 127 [.int .i64 n] (.str (dec n)) []) (m : Msh) : C 395 [.agg (mshC m)] (.bool true) [] := by
  refine ReliefSums_cQ hC (fun m hz => AccumulatedQ_c hC dec hI m hz fun hv hm => ?_) dec hI m
  rcases Nat.eq_zero_or_pos m.f.length with h0 | h0
  · refine ⟨[], ⟨by rw [h0]; exact List.Perm.refl _, List.Pairwise.nil⟩, ?_⟩
    rw [h0]
    exact hZ _ (hs0 _)
  · exact hG m [.ptr [.ptr (grC m)]] h0 (by omega) (fun a b ha hb => acc1_c hC m hv a b ha hb)
theorem ReliefSums_c (hG : SrtG C) (hZ : SrtZ C) (dec : Nat → List UInt8) (hI : ∀ n : Nat, n < 100 → C 127 [.int .i64 n] (.str (dec n)) []) (m : Msh) : C 395 [.agg (mshC m)] (.bool true) [] :=
  ReliefSums_cS hC (fun cs => sort0_c hC cs) hG hZ dec hI m
end Go.Gv
