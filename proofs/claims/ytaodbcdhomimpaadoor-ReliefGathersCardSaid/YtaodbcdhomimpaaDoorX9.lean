/-
  Texts of the proof: L10, L11, GvT3, L13, L14, I1, I2, I3, I4, H13, H14, H15, I5, I6, J29, L12, L15, L16, L17.
-/
import Derived.Test.YtaodbcdhomimpaaDoorX8
import Derived.Test.YtaodbcdhomimpaaDoorX7
import Derived.Shelf.SlSortCmp.Whole1
import Derived.Shelf.SlSortCmp.NoneTotal
set_option linter.all false
set_option linter.unusedSimpArgs false
namespace Go.Gv
/-! ### Sums -/
def sumR (f : Nat → Int) : Nat → Int
  | 0 => 0
  | n + 1 => sumR f n + f n
theorem sumR_congr {f g : Nat → Int} : ∀ {n : Nat}, (∀ i, i < n → f i = g i) → sumR f n = sumR g n
  | 0, _ => rfl
  | n + 1, h => by rw [sumR, sumR, sumR_congr (fun i hi => h i (by omega)), h n (by omega)]
theorem sumR_add (f g : Nat → Int) : ∀ n, sumR (fun i => f i + g i) n = sumR f n + sumR g n
  | 0 => rfl
  | n + 1 => by rw [sumR, sumR, sumR, sumR_add f g n]; omega
theorem sumR_zero : ∀ n, sumR (fun _ => 0) n = 0
  | 0 => rfl
  | n + 1 => by rw [sumR, sumR_zero n]; rfl
theorem sumR_mul (c : Int) (f : Nat → Int) : ∀ n, sumR (fun i => c * f i) n = c * sumR f n
  | 0 => by simp [sumR]
  | n + 1 => by rw [sumR, sumR, sumR_mul c f n, Int.mul_add]
theorem sumR_one (c : Int) (j : Nat) : ∀ n, sumR (fun i => if i = j then c else 0) n = if j < n then c else 0
  | 0 => by simp [sumR]
  | n + 1 => by
    rw [sumR, sumR_one c j n]
    by_cases h : n = j
    · subst h; rw [if_neg (by omega), if_pos rfl, if_pos (by omega)]; omega
    · rw [if_neg h]
      by_cases h2 : j < n
      · rw [if_pos h2, if_pos (by omega)]; omega
      · rw [if_neg h2, if_neg (by omega)]; rfl
theorem sumR_swap (f : Nat → Nat → Int) (m : Nat) : ∀ n, sumR (fun i => sumR (f i) m) n = sumR (fun k => sumR (fun i => f i k) n) m
  | 0 => by rw [sumR]; exact (sumR_zero m).symm
  | n + 1 => by
    rw [sumR, sumR_swap f m n, ← sumR_add]
    exact sumR_congr fun k _ => rfl
theorem sumR_nn {f : Nat → Int} : ∀ {n : Nat}, (∀ i, i < n → 0 ≤ f i) → 0 ≤ sumR f n
  | 0, _ => Int.le_refl _
  | n + 1, h => by
    have h1 := sumR_nn (n := n) fun i hi => h i (by omega)
    have h2 := h n (by omega)
    rw [sumR]; omega
theorem sumR_le {f g : Nat → Int} : ∀ {n : Nat}, (∀ i, i < n → f i ≤ g i) → sumR f n ≤ sumR g n
  | 0, _ => Int.le_refl _
  | n + 1, h => by
    have h1 := sumR_le (n := n) fun i hi => h i (by omega)
    have h2 := h n (by omega)
    rw [sumR, sumR]; omega
theorem sumR_mono {f : Nat → Int} {n k : Nat} (h : ∀ i, i < n → 0 ≤ f i) (hk : k ≤ n) : sumR f k ≤ sumR f n := by
  induction n with
  | zero => have : k = 0 := by omega
            subst this; exact Int.le_refl _
  | succ n ih =>
    rcases Nat.lt_or_ge k (n + 1) with h2 | h2
    · have h1 := ih (fun i hi => h i (by omega)) (by omega)
      have h3 := h n (by omega)
      rw [sumR]; omega
    · have : k = n + 1 := by omega
      subst this; exact Int.le_refl _
theorem sumR_const (c : Int) : ∀ n : Nat, sumR (fun _ => c) n = n * c
  | 0 => by simp [sumR]
  | n + 1 => by
    rw [sumR, sumR_const c n, Int.natCast_succ, Int.add_mul]; omega
/-! ### Paths -/
def cntN (l : List Int) (x : Nat) : Int := ((l.filter fun y => decide (y = (x : Int))).length : Int)
theorem cntN_nil (x : Nat) : cntN [] x = 0 := rfl
theorem cntN_cons (i : Nat) (l : List Int) (x : Nat) : cntN ((i : Int) :: l) x = (if x = i then 1 else 0) + cntN l x := by
  unfold cntN
  by_cases h : x = i
  · subst h; simp; omega
  · rw [List.filter_cons_of_neg (by simp; omega), if_neg h]; omega
theorem cntN_nn (l : List Int) (x : Nat) : 0 ≤ cntN l x := by unfold cntN; omega
theorem cntN_none {l : List Int} {x : Nat} (h : ∀ y ∈ l, y ≠ (x : Int)) : cntN l x = 0 := by
  unfold cntN
  rw [List.filter_eq_nil_iff.2 (fun y hy => by simpa using h y hy)]
  rfl
theorem pth_succ (m : Msh) (k : Nat) {f : Int} (h : 0 ≤ f) : pth m (k + 1) f = f :: pth m k (runF m f.toNat) := by
  rw [pth, if_neg (by omega)]
/-- What is on a path lies not above its begin. -/
theorem pth_low (m : Msh) : ∀ (k : Nat) (i : Nat), ∀ y ∈ pth m k (i : Int), 0 ≤ y ∧ sumF m y.toNat ≤ sumF m i
  | 0, i, y, h => by simp [pth] at h
  | k + 1, i, y, h => by
    rw [pth_succ m k (by omega), Int.toNat_natCast] at h
    rcases List.mem_cons.1 h with rfl | h
    · exact ⟨by omega, by rw [Int.toNat_natCast]; exact Int.le_refl _⟩
    · rcases runF_bd m i with e | e | ⟨e1, e2, e3⟩
      · rw [pth_neg m k (by omega)] at h; cases h
      · rw [pth_neg m k (by omega)] at h; cases h
      · have ht : runF m i = ((runF m i).toNat : Int) := by omega
        rw [ht] at h
        obtain ⟨h1, h2⟩ := pth_low m k _ y h
        exact ⟨h1, by omega⟩
theorem cnt_one (m : Msh) : ∀ (k : Nat) (i x : Nat), cntN (pth m k (i : Int)) x ≤ 1
  | 0, i, x => by rw [pth]; exact Int.zero_le_ofNat 1
  | k + 1, i, x => by
    rw [pth_succ m k (by omega), Int.toNat_natCast, cntN_cons]
    rcases runF_bd m i with e | e | ⟨e1, e2, e3⟩
    · rw [pth_neg m k (by omega), cntN_nil]; split <;> omega
    · rw [pth_neg m k (by omega), cntN_nil]; split <;> omega
    · have ht : runF m i = ((runF m i).toNat : Int) := by omega
      rw [ht]
      have h1 := cnt_one m k (runF m i).toNat x
      by_cases hx : x = i
      · subst hx
        rw [if_pos rfl, cntN_none (fun y hy e => ?_)]
        · omega
        · have := (pth_low m k _ y hy).2
          rw [e, Int.toNat_natCast] at this
          omega
      · rw [if_neg hx]; omega
/-- Each face on a path but its begin is where the water of the one before it runs. -/
theorem cnt_step (m : Msh) : ∀ (k : Nat) (i : Nat), i < m.f.length → rnk m i < k → ∀ x : Nat, cntN (pth m k (i : Int)) x = (if x = i then 1 else 0) + sumR (fun y => if runF m y = (x : Int) then cntN (pth m k (i : Int)) y else 0) m.f.length
  | 0, i, _, hr, x => by omega
  | k + 1, i, hi, hr, x => by
    rw [pth_succ m k (by omega), Int.toNat_natCast]
    have e0 : sumR (fun y => if runF m y = (x : Int) then cntN ((i : Int) :: pth m k (runF m i)) y else 0) m.f.length = (if runF m i = (x : Int) then 1 else 0) + sumR (fun y => if runF m y = (x : Int) then cntN (pth m k (runF m i)) y else 0) m.f.length := by
      have h1 : ∀ y, (if runF m y = (x : Int) then cntN ((i : Int) :: pth m k (runF m i)) y else 0) = (if y = i then (if runF m i = (x : Int) then 1 else 0) else 0) + (if runF m y = (x : Int) then cntN (pth m k (runF m i)) y else 0) := by
        intro y
        rw [cntN_cons]
        by_cases hy : y = i
        · subst hy
          simp only [if_true]
          split <;> omega
        · simp only [if_neg hy]
          split <;> omega
      simp only [h1]
      rw [sumR_add, sumR_one, if_pos hi]
    rw [e0, cntN_cons]
    rcases runF_bd m i with e | e | ⟨e1, e2, e3⟩
    · rw [pth_neg m k (by omega)]
      simp only [cntN_nil]
      have : sumR (fun y => if runF m y = (x : Int) then (0 : Int) else 0) m.f.length = 0 := by
        rw [sumR_congr (g := fun _ => 0) (fun y _ => by split <;> rfl), sumR_zero]
      rw [this, if_neg (show ¬ runF m i = (x : Int) by omega)]
      omega
    · rw [pth_neg m k (by omega)]
      simp only [cntN_nil]
      have : sumR (fun y => if runF m y = (x : Int) then (0 : Int) else 0) m.f.length = 0 := by
        rw [sumR_congr (g := fun _ => 0) (fun y _ => by split <;> rfl), sumR_zero]
      rw [this, if_neg (show ¬ runF m i = (x : Int) by omega)]
      omega
    · have ht : runF m i = ((runF m i).toNat : Int) := by omega
      have hlt : (runF m i).toNat < m.f.length := by omega
      have hr2 : rnk m (runF m i).toNat < k := by
        have := rnk_lt hlt e3
        omega
      have ih := cnt_step m k (runF m i).toNat hlt hr2 x
      rw [← ht] at ih
      rw [ih]
      have : (if x = (runF m i).toNat then (1 : Int) else 0) = if runF m i = (x : Int) then 1 else 0 := by
        by_cases h : runF m i = (x : Int)
        · rw [if_pos h, if_pos (by omega)]
        · rw [if_neg h, if_neg (by omega)]
      rw [this]
/-! ### What comes together -/
def twF (m : Msh) (i : Nat) : Int := turnT (triF m (fce m i))
def gatF (m : Msh) (x : Nat) : Int := sumR (fun j => twF m j * cntN (pathL m (j : Int)) x) m.f.length
def totF (m : Msh) : Int := sumR (twF m) m.f.length
theorem gat_eq (m : Msh) {x : Nat} (hx : x < m.f.length) : gatF m x = twF m x + sumR (fun y => if runF m y = (x : Int) then gatF m y else 0) m.f.length := by
  unfold gatF
  have h1 : ∀ j, j < m.f.length → twF m j * cntN (pathL m (j : Int)) x = (if j = x then twF m x else 0) + sumR (fun y => if runF m y = (x : Int) then twF m j * cntN (pathL m (j : Int)) y else 0) m.f.length := by
    intro j hj
    have h := cnt_step m m.f.length j hj (rnk_le hj) x
    unfold pathL
    rw [h, Int.mul_add]
    congr 1
    · by_cases e : x = j
      · subst e; simp
      · rw [if_neg e, if_neg (Ne.symm e)]; simp
    · rw [← sumR_mul]
      exact sumR_congr fun y _ => by split <;> simp
  rw [sumR_congr h1, sumR_add, sumR_one, if_pos hx, sumR_swap]
  congr 1
  refine sumR_congr fun y _ => ?_
  split
  · rfl
  · exact sumR_zero _
theorem gat_out (m : Msh) : sumR (fun x => if runF m x < 0 then gatF m x else 0) m.f.length = totF m := by
  have h1 : sumR (gatF m) m.f.length = totF m + sumR (fun x => sumR (fun y => if runF m y = (x : Int) then gatF m y else 0) m.f.length) m.f.length := by
    unfold totF
    rw [← sumR_add]
    exact sumR_congr fun x hx => gat_eq m hx
  have h2 : sumR (fun x => sumR (fun y => if runF m y = (x : Int) then gatF m y else 0) m.f.length) m.f.length = sumR (fun y => if runF m y < 0 then 0 else gatF m y) m.f.length := by
    rw [sumR_swap]
    refine sumR_congr fun y hy => ?_
    rcases runF_bd m y with e | e | ⟨e1, e2, e3⟩
    · rw [if_pos (by omega), sumR_congr (g := fun _ => 0) (fun x _ => by rw [if_neg (by omega)]), sumR_zero]
    · rw [if_pos (by omega), sumR_congr (g := fun _ => 0) (fun x _ => by rw [if_neg (by omega)]), sumR_zero]
    · rw [if_neg (by omega), sumR_congr (g := fun x => if x = (runF m y).toNat then gatF m y else 0) (fun x _ => ?_), sumR_one, if_pos (by omega)]
      by_cases h : x = (runF m y).toNat
      · rw [if_pos h, if_pos (by omega)]
      · rw [if_neg h, if_neg (by omega)]
  have h3 : sumR (gatF m) m.f.length = sumR (fun x => if runF m x < 0 then gatF m x else 0) m.f.length + sumR (fun y => if runF m y < 0 then 0 else gatF m y) m.f.length := by
    rw [← sumR_add]
    exact sumR_congr fun x _ => by split <;> omega
  omega
theorem tw_nn {m : Msh} (hv : validM m = true) {i : Nat} (hi : i < m.f.length) : 0 ≤ twF m i ∧ twF m i ≤ 2251799813685248 := by
  have h := (valid_f hv hi).2
  have ht := valid_T hv hi
  unfold okT at ht
  simp only [Bool.and_eq_true] at ht
  have := turn_bd ht.1.1 ht.1.2 ht.2
  unfold twF
  unfold turnT turnP at *
  omega
theorem tot_bd {m : Msh} (hv : validM m = true) (hm : m.f.length ≤ 100) : 0 ≤ totF m ∧ totF m ≤ 225179981368524800 := by
  refine ⟨sumR_nn fun i hi => (tw_nn hv hi).1, ?_⟩
  have h1 := sumR_le (f := twF m) (g := fun _ => 2251799813685248) (n := m.f.length) fun i hi => (tw_nn hv hi).2
  rw [sumR_const] at h1
  unfold totF
  omega
theorem gat_bd {m : Msh} (hv : validM m = true) (x : Nat) : 0 ≤ gatF m x ∧ gatF m x ≤ totF m := by
  refine ⟨sumR_nn fun i hi => Int.mul_nonneg (tw_nn hv hi).1 (cntN_nn _ _), sumR_le fun i hi => ?_⟩
  have h1 := cnt_one m m.f.length i x
  have h2 := (tw_nn hv hi).1
  have h3 := Int.mul_le_mul_of_nonneg_left (show cntN (pathL m (i : Int)) x ≤ 1 from h1) h2
  omega
end Go.Gv

set_option linter.unusedSimpArgs false
namespace Go.Gv
def lsum (f : Nat → Int) : List Nat → Int
  | [] => 0
  | x :: r => f x + lsum f r
theorem lsum_app (f : Nat → Int) : ∀ l l' : List Nat, lsum f (l ++ l') = lsum f l + lsum f l'
  | [], l' => by simp [lsum]
  | x :: r, l' => by rw [List.cons_append, lsum, lsum, lsum_app f r l']; omega
theorem lsum_perm {f : Nat → Int} {l l' : List Nat} (h : l.Perm l') : lsum f l = lsum f l' := by
  induction h with
  | nil => rfl
  | cons x _ ih => rw [lsum, lsum, ih]
  | swap x y l => simp only [lsum]; omega
  | trans _ _ h1 h2 => rw [h1, h2]
theorem lsum_range (f : Nat → Int) : ∀ n, lsum f (List.range n) = sumR f n
  | 0 => rfl
  | n + 1 => by rw [List.range_succ, lsum_app, lsum_range f n, sumR]; simp [lsum]
theorem lsum_zero {f : Nat → Int} : ∀ {l : List Nat}, (∀ y ∈ l, f y = 0) → lsum f l = 0
  | [], _ => rfl
  | x :: r, h => by rw [lsum, h x (List.mem_cons_self ..), lsum_zero (fun y hy => h y (List.mem_cons_of_mem _ hy))]; rfl
theorem lsum_nn {f : Nat → Int} : ∀ {l : List Nat}, (∀ y ∈ l, 0 ≤ f y) → 0 ≤ lsum f l
  | [], _ => Int.le_refl _
  | x :: r, h => by
    have h1 := h x (List.mem_cons_self ..)
    have h2 := lsum_nn (l := r) (fun y hy => h y (List.mem_cons_of_mem _ hy))
    rw [lsum]; omega
/-- What a face has after some faces have given theirs on. -/
def giv (m : Msh) (x y : Nat) : Int := if runF m y = (x : Int) then gatF m y else 0
def accP (m : Msh) (P : List Nat) (x : Nat) : Int := twF m x + lsum (giv m x) P
theorem accP_nil (m : Msh) (x : Nat) : accP m [] x = twF m x := by simp [accP, lsum]
theorem accP_snoc (m : Msh) (P : List Nat) (i x : Nat) : accP m (P ++ [i]) x = accP m P x + giv m x i := by
  unfold accP
  rw [lsum_app]
  simp only [lsum]
  omega
theorem accP_all {m : Msh} {P : List Nat} (hp : P.Perm (List.range m.f.length)) {x : Nat} (hx : x < m.f.length) : accP m P x = gatF m x := by
  unfold accP
  rw [lsum_perm hp, lsum_range, gat_eq m hx]
  rfl
/-- From the highest face to the lowest one. -/
structure Ord (m : Msh) (P : List Nat) : Prop where
  perm : P.Perm (List.range m.f.length)
  srt : P.Pairwise fun a b => sumF m b ≤ sumF m a
theorem Ord.len {m : Msh} {P : List Nat} (h : Ord m P) : P.length = m.f.length := by
  have := h.perm.length_eq
  simpa using this
theorem Ord.lt {m : Msh} {P : List Nat} (h : Ord m P) {p : Nat} (hp : p < P.length) : P[p] < m.f.length := by
  have := h.perm.mem_iff.1 (List.getElem_mem hp)
  simpa using this
theorem accP_at {m : Msh} {P : List Nat} (h : Ord m P) {p : Nat} (hp : p < P.length) : accP m (P.take p) P[p] = gatF m P[p] := by
  have hx := h.lt hp
  rw [← accP_all h.perm hx]
  unfold accP
  congr 1
  have e : lsum (giv m P[p]) P = lsum (giv m P[p]) (P.take p) + lsum (giv m P[p]) (P.drop p) := by rw [← lsum_app, List.take_append_drop]
  have e2 : lsum (giv m P[p]) (P.drop p) = 0 := by
    refine lsum_zero fun y hy => ?_
    obtain ⟨j, hj, rfl⟩ := List.getElem_of_mem hy
    rw [List.getElem_drop]
    simp only [List.length_drop] at hj
    have hs : sumF m P[p + j] ≤ sumF m P[p] := by
      rcases Nat.eq_zero_or_pos j with rfl | h0
      · exact Int.le_refl _
      · exact List.pairwise_iff_getElem.1 h.srt p (p + j) hp (by omega) (by omega)
    unfold giv
    rw [if_neg]
    intro e3
    rcases runF_bd m P[p + j] with e | e | ⟨e1, e2, e3'⟩
    · omega
    · omega
    · have : (runF m P[p + j]).toNat = P[p] := by omega
      rw [this] at e3'
      omega
  omega
theorem giv_nn {m : Msh} (hv : validM m = true) (x y : Nat) : 0 ≤ giv m x y := by
  unfold giv
  split
  · exact (gat_bd hv y).1
  · exact Int.le_refl _
theorem accP_bd {m : Msh} (hv : validM m = true) {P : List Nat} (h : Ord m P) {p : Nat} {x : Nat} (hx : x < m.f.length) : 0 ≤ accP m (P.take p) x ∧ accP m (P.take p) x ≤ totF m := by
  have h1 := lsum_nn (f := giv m x) (l := P.take p) fun y _ => giv_nn hv x y
  have h2 := lsum_nn (f := giv m x) (l := P.drop p) fun y _ => giv_nn hv x y
  have e : lsum (giv m x) P = lsum (giv m x) (P.take p) + lsum (giv m x) (P.drop p) := by rw [← lsum_app, List.take_append_drop]
  have e2 := accP_all h.perm hx
  have h3 := (gat_bd hv x).2
  have h4 := (tw_nn hv hx).1
  unfold accP at *
  omega
/-! ### Rows -/
def natR (l : List Nat) : List (List D) := l.map fun (i : Nat) => [D.int .i64 ((i : Nat) : Int)]
def acR (m : Msh) (P : List Nat) : List Int := (List.range m.f.length).map (accP m P)
theorem acR_len (m : Msh) (P : List Nat) : (acR m P).length = m.f.length := by simp [acR]
theorem acR_get (m : Msh) (P : List Nat) {x : Nat} (hx : x < m.f.length) : (acR m P)[x]? = some (accP m P x) := by simp [acR, hx]
theorem acR_stay {m : Msh} {P : List Nat} {i : Nat} (h : runF m i < 0) : acR m (P ++ [i]) = acR m P := by
  unfold acR
  refine List.map_congr_left fun x _ => ?_
  rw [accP_snoc]
  unfold giv
  rw [if_neg (by omega)]
  omega
theorem acR_give {m : Msh} {P : List Nat} {i t : Nat} (h : runF m i = (t : Int)) : acR m (P ++ [i]) = (acR m P).set t (accP m P t + gatF m i) := by
  apply List.ext_getElem?
  intro x
  rw [List.getElem?_set]
  unfold acR
  simp only [List.getElem?_map, List.length_map, List.length_range]
  by_cases hx : x < m.f.length
  · by_cases ht : t = x
    · subst ht
      simp [hx, accP_snoc, giv, h]
    · simp [hx, ht, accP_snoc, giv, h]
      omega
  · by_cases ht : t = x
    · subst ht; simp [hx]
    · simp [hx, ht]
theorem acR_nil (m : Msh) : acR m [] = (List.range m.f.length).map (twF m) := by
  unfold acR
  exact List.map_congr_left fun x _ => accP_nil m x
def gatL (m : Msh) : List Int := (List.range m.f.length).map (gatF m)
theorem acR_all {m : Msh} {P : List Nat} (hp : P.Perm (List.range m.f.length)) : acR m P = gatL m := by
  unfold acR gatL
  exact List.map_congr_left fun x hx => accP_all hp (List.mem_range.1 hx)
/-! ### Path by path -/
def refA (m : Msh) (i : Nat) (l : List Int) (x : Nat) : Int := sumR (fun j => twF m j * cntN (pathL m (j : Int)) x) i + twF m i * cntN l x
def refR (m : Msh) (i : Nat) (l : List Int) : List Int := (List.range m.f.length).map (refA m i l)
end Go.Gv

namespace Go.Gv
open Go.Sort Go.Proofs Go.Shelf
theorem Bel.grown {w w' : World} (h : Bel w w') : ∃ q os, w' = grow (w.drewN q) os := by
  refine ⟨w'.drawn - w.drawn, w'.heap.extract w.heap.size w'.heap.size, ?_⟩
  have hh : w'.heap = w.heap ++ w'.heap.extract w.heap.size w'.heap.size := by
    apply Array.ext
    · have := h.size
      simp only [Array.size_append, Array.size_extract]
      omega
    · intro i h1 h2
      by_cases hi : i < w.heap.size
      · rw [Array.getElem_append_left hi]
        have := h.block i hi
        rw [Array.getElem?_eq_getElem h1, Array.getElem?_eq_getElem hi] at this
        exact Option.some.inj this
      · rw [Array.getElem_append_right (by omega), Array.getElem_extract]
        congr 1
        omega
  have hd := h.drawn
  obtain ⟨h1, h2, h3, h4, h5, h6⟩ := h
  cases w
  cases w'
  simp only [grow, World.drewN] at *
  subst h1 h2 h3
  congr 1
  omega
theorem Bel.sorted {α : Type} [Inhabited α] {enc : α → Value} {w : World} {blk off n : Nat} {d : Array α} {os : Array Obj} {p : Addr} {v : Value} (hp : p.block ≠ blk) (h : w.cell? p = some v) : (sortWorld enc w blk off n d os).cell? p = some v := by
  have hb : p.block < w.heap.size := by
    unfold World.cell? at h
    cases e : w.heap[p.block]? with
    | none => rw [e] at h; cases h
    | some _ => exact (Array.getElem?_eq_some_iff.1 e).1
  have e : (sortWorld enc w blk off n d os).heap[p.block]? = w.heap[p.block]? := by
    simp only [sortWorld, grow, putRow, mapBlock, Sort.ahead]
    rw [Array.getElem?_append_left (by simpa using hb), Array.getElem?_modify, if_neg (Ne.symm hp)]
  unfold World.cell? at h ⊢
  rw [e]
  exact h
section
variable {P : Program} {F : Fid} {α : Type} [Inhabited α]
theorem runsC_sortFunc {ρ : Ren} (Ly : SlLaysF.n6 P ρ) (enc : α → Value) (encD : α → D) (h1 : OneCell enc) (hflat : ∀ M x u, RepC F M (encD x) u → u = enc x) (hrep : ∀ M x, RepC F M (encD x) (enc x)) (cf : α → α → Int) (hO : SWO (ltOf cf)) {g cg : Nat} (hg : ∀ f, F g = some f → f = ρ.f 6) {cs : List D}
    (hn : ∀ f, F cg = some f → named P f = true) (hcl : ∀ x y, runsC P F cg (encD x :: encD y :: cs) (.int .i64 (cf x y)) []) (d : Array α) (hz : d.size < 2 ^ 62) :
    runsC P F g [.own 1 (rowsOf encD d), .fn cg cs] .any [.own 1 (rowsOf encD (pdq (ltOf cf) d 0 d.size (Lib.bitLen d.size) true true)), .nilp] := by
  refine ⟨trivial, fun f hf => ⟨rfl, ?_⟩⟩
  obtain rfl := hg f hf
  have hp := pdq_sorts (ltOf cf) hO d 0 d.size (Lib.bitLen d.size) true true (Nat.zero_le _) (Nat.le_refl _) (Or.inl rfl)
  have hsz : (pdq (ltOf cf) d 0 d.size (Lib.bitLen d.size) true true).size = d.size := hp.1.1
  refine runsS_of_sort enc encD hflat hrep d _ hsz _ (fun h M w vs A hh r => ?_) (fun M w vs blk off cap hh hM r hH hb => ?_)
  · simp only [RepL, RepC] at r
    obtain ⟨fv, vs', rfl, ⟨fi, us, hfi, rfl, hus⟩, rfl⟩ := r
    refine (AnyF.slices_SortFunc_none { Ly with } A 0 _ w).mono ?_
    rintro e w' ⟨rfl, rfl⟩
    exact ⟨rfl, 0, #[], by simp⟩
  · simp only [RepL, RepC] at r
    obtain ⟨fv, vs', rfl, ⟨fi, us, hfi, rfl, hus⟩, rfl⟩ := r
    have hcmp : CmpLays1 P fi us.toArray enc cf blk off d.size w := by
      intro m os dk hdk x y
      have hr := (hcl x y).2 fi hfi M (sortWorld enc w blk off m dk os) (enc x :: enc y :: us) (fun p v hpv => Bel.sorted (fun e => by rw [hM p e] at hpv; cases hpv) (hh p v hpv)) (by
        simp only [RepL]
        exact ⟨_, _, rfl, hrep _ _, _, _, rfl, hrep _ _, hus⟩)
      have e : #[enc x, enc y] ++ us.toArray = (enc x :: enc y :: us).toArray := by simp
      rw [e]
      refine hr.mono ?_
      rintro e w' ⟨v, M', rfl, hbel, _, _, _, hv⟩
      simp only [RepC] at hv
      subst hv
      exact ⟨rfl, hbel.grown⟩
    exact Any.slices_SortFunc_eq Ly enc h1 cf hO fi us.toArray blk off cap d w (callFunc_named (hn fi hfi)) hcmp hH hb (by omega)
end
end Go.Gv

set_option linter.unusedSimpArgs false
namespace Go.Gv
open Go.Sort Go.Proofs Go.Shelf
section
variable {m : Msh}
def cfG (m : Msh) {N : Nat} (a b : Fin N) : Int := sumF m b.1 - sumF m a.1
theorem cfG_swo (m : Msh) (N : Nat) : SWO (ltOf (cfG m (N := N))) where
  irrefl x := by simp [ltOf, cfG]
  trans x y z h1 h2 := by
    have g1 : cfG m x y < 0 := of_decide_eq_true h1
    have g2 : cfG m y z < 0 := of_decide_eq_true h2
    refine decide_eq_true ?_
    unfold cfG at *
    omega
  ntrans x y z h1 h2 := by
    have g1 : ¬ cfG m x y < 0 := of_decide_eq_false h1
    have g2 : ¬ cfG m y z < 0 := of_decide_eq_false h2
    refine decide_eq_false ?_
    unfold cfG at *
    omega
def dG (N : Nat) : Array (Fin N) := (List.finRange N).toArray
theorem dG_size (N : Nat) : (dG N).size = N := by simp [dG]
def oG (m : Msh) (N : Nat) [Inhabited (Fin N)] : List Nat := (pdq (ltOf (cfG m)) (dG N) 0 (dG N).size (Lib.bitLen (dG N).size) true true).toList.map fun i => i.1
theorem oG_ord (m : Msh) [Inhabited (Fin m.f.length)] : Ord m (oG m m.f.length) := by
  have h := pdq_sorts (ltOf (cfG m)) (cfG_swo m m.f.length) (dG m.f.length) 0 (dG m.f.length).size (Lib.bitLen (dG m.f.length).size) true true (Nat.zero_le _) (Nat.le_refl _) (Or.inl rfl)
  obtain ⟨⟨hs, _, hp⟩, hsrt⟩ := h
  unfold oG
  generalize hP : pdq (ltOf (cfG m)) (dG m.f.length) 0 (dG m.f.length).size (Lib.bitLen (dG m.f.length).size) true true = d' at *
  have e1 : d'.extract 0 (dG m.f.length).size = d' := by rw [← hs]; exact Array.extract_size
  have e2 : (dG m.f.length).extract 0 (dG m.f.length).size = dG m.f.length := Array.extract_size
  rw [e1, e2] at hp
  refine ⟨?_, ?_⟩
  · have h1 := hp.map (fun i : Fin m.f.length => i.1)
    have h2 : (dG m.f.length).toList.map (fun i : Fin m.f.length => i.1) = List.range m.f.length := by
      unfold dG
      exact List.ext_getElem (by simp) (by intro i h1 h2; simp)
    rw [h2] at h1
    exact h1
  · rw [List.pairwise_map, List.pairwise_iff_getElem]
    intro i j hi hj hij
    have hj' : j < d'.size := by simpa using hj
    have hi' : i < d'.size := by simpa using hi
    have h1 := hsrt i j (Nat.zero_le _) hij (by rw [← hs]; exact hj')
    rw [getElem!_pos d' j hj', getElem!_pos d' i hi'] at h1
    have g1 : ¬ cfG m d'[j] d'[i] < 0 := of_decide_eq_false h1
    unfold cfG at g1
    simp only [Array.getElem_toList]
    omega
end
end Go.Gv

set_option linter.unusedSimpArgs false
namespace Go.Gv
open Go.Sort Go.Proofs Go.Shelf
section
variable {P : Program} {F : Fid}
theorem runsC_order {ρ : Ren} (Ly : SlLaysF.n6 P ρ) (m : Msh) (h0 : 0 < m.f.length) (hl : m.f.length < 2 ^ 62) {g cg : Nat} (hg : ∀ f, F g = some f → f = ρ.f 6) {cs : List D}
    (hn : ∀ f, F cg = some f → named P f = true) (hcl : ∀ a b : Nat, a < m.f.length → b < m.f.length → runsC P F cg (.int .i64 a :: .int .i64 b :: cs) (.int .i64 (sumF m b - sumF m a)) []) :
    ∃ Q, Ord m Q ∧ runsC P F g [.own 1 (natR (List.range m.f.length)), .fn cg cs] .any [.own 1 (natR Q), .nilp] := by
  haveI : Inhabited (Fin m.f.length) := ⟨⟨0, h0⟩⟩
  refine ⟨oG m m.f.length, oG_ord m, ?_⟩
  have k := runsC_sortFunc (α := Fin m.f.length) Ly (fun i => .int .i64 (i.1 : Int)) (fun i => D.int .i64 (i.1 : Int)) (fun _ => rfl) (fun M x u h => by simpa [RepC] using h) (fun M x => by simp [RepC]) (cfG m) (cfG_swo m _) hg hn (fun x y => hcl x.1 y.1 x.2 y.2) (dG m.f.length) (by rw [dG_size]; exact hl)
  have e1 : rowsOf (fun i : Fin m.f.length => D.int .i64 (i.1 : Int)) (dG m.f.length) = natR (List.range m.f.length) := by
    unfold rowsOf natR dG
    exact List.ext_getElem (by simp) (by intro i h1 h2; simp)
  have e2 : rowsOf (fun i : Fin m.f.length => D.int .i64 (i.1 : Int)) (pdq (ltOf (cfG m)) (dG m.f.length) 0 (dG m.f.length).size (Lib.bitLen (dG m.f.length).size) true true) = natR (oG m m.f.length) := by
    unfold rowsOf natR oG
    rw [List.map_map]
    rfl
  rw [e1, e2] at k
  exact k
end
end Go.Gv

set_option linter.unusedSimpArgs false
namespace Go.Gv
open Go.Lib
variable {C : CC} (hC : Closed prog C)
include hC
def nmD (x : Nat) : D := .agg [.int .u64 ((x / 18446744073709551616 : Nat) : Int), .int .u64 ((x % 18446744073709551616 : Nat) : Int), .bool false]
end Go.Gv

set_option linter.unusedSimpArgs false
namespace Go.Gv
variable {C : CC} (hC : Closed prog C)
include hC
end Go.Gv

set_option linter.unusedSimpArgs false
namespace Go.Gv
/-- The side. -/
def sidK (m : Msh) (a b : Int) : Int := if sideF m a b < 0 then 0 else idxD (fun j => decide (crn (fce m (sideF m a b).toNat) j = a) && decide (crn (fce m (sideF m a b).toNat) (j + 1) = b)) (List.range 3)
def acK (m : Msh) (i k : Nat) : Int := sidK m (crn (fce m i) (k + 1)) (crn (fce m i) k)
def nbT (m : Msh) (i : Nat) : List (List D) := (List.range i).map fun j => [.int .i64 (nbF m j 0), .int .i64 (nbF m j 1), .int .i64 (nbF m j 2)]
@[simp] theorem nbT_len (m : Msh) (i : Nat) : (nbT m i).length = i := by simp [nbT]
@[simp] theorem nbT_take (m : Msh) (i : Nat) : List.take i (nbT m i) = nbT m i := List.take_of_length_le (by simp)
@[simp] theorem nbT_cv (m : Msh) (i : Nat) : List.map (fun e => List.map cellV e) (nbT m i) = nbT m i := by simp [nbT]
variable {C : CC} (hC : Closed prog C)
include hC
end Go.Gv

set_option linter.unusedSimpArgs false
namespace Go.Gv
/-- Whether a border is among the first k sides. -/
def bdB (m : Msh) (i k : Nat) : Bool := (List.range k).any fun c => decide (nbF m i c < 0)
def ini (m : Msh) (i k : Nat) : Int := if bdB m i k then -1 else -2
/-- What the reference's second loop has found. -/
def qup (m : Msh) (i k : Nat) : Int := if upF m i k < 0 then ini m i 3 else upF m i k
variable {C : CC} (hC : Closed prog C)
include hC
end Go.Gv

set_option linter.unusedSimpArgs false
namespace Go.Gv
def exM (z : Int) : Msh := ⟨false, [⟨0, 0, 0⟩, ⟨30, 0, z⟩, ⟨30, 30, 9⟩, ⟨0, 30, 0⟩], false, [⟨0, 1, 2, 0⟩, ⟨0, 2, 3, 0⟩]⟩
variable {C : CC} (hC : Closed prog C)
include hC
theorem eqI_c (b b' : Bool) (xs ys : List Int) (hx : xs.length < 2 ^ 62) (hy : ys.length < 2 ^ 62) : C 19 [slx b (xs.map fun n => [.int .i64 n]), slx b' (ys.map fun n => [.int .i64 n])] (.bool (decide (xs = ys))) [] := by
  refine start hC (nf := N19_slices_Equal__int_int) rfl rfl ?_
  simp [N19_slices_Equal__int_int]
  refine brB_of (fun h => ?_) (fun h => ?_) <;> simp at h <;> simp [h]
  · rintro rfl; exact h rfl
  have h' : xs.length = ys.length := by omega
  refine loop_of Nat (fun i => [(0, slx b (xs.map fun n => [.int .i64 n])), (1, slx b' (ys.map fun n => [.int .i64 n])), (12, .int .i64 ys.length), (13, .int .i64 i)])
    (fun i => i ≤ ys.length ∧ ∀ k, k < i → xs[k]? = ys[k]?) (fun i => ys.length - i) 0 (by simp) (by simp) ?_
  rintro i ⟨hi, hok⟩
  simp
  refine brB_of (fun h1 => ?_) (fun h1 => ?_) <;> simp at h1 <;> simp [h1]
  · have hw : IntKind.wrap .i64 ((i : Int) + 1) = ((i + 1 : Nat) : Int) := wrap_i64 (by omega) (by omega)
    have hx1 : i < xs.length := by omega
    simp [h1, hx1]
    refine ⟨indW_of (by decide +kernel), ?_⟩
    refine brB_of (fun h2 => ?_) (fun h2 => ?_) <;> simp [h1, hx1] at h2 <;> simp [h1, hx1, h2, hw]
    · rintro rfl
      exact h2 rfl
    · refine ⟨i + 1, ⟨by omega, fun k hk => ?_⟩, by omega, rfl⟩
      rcases Nat.lt_succ_iff_lt_or_eq.1 hk with h5 | rfl
      · exact hok k h5
      · rw [List.getElem?_eq_getElem h1, List.getElem?_eq_getElem hx1, h2]
  · refine List.ext_getElem? fun k => ?_
    rcases Nat.lt_or_ge k i with h2 | h2
    · exact hok k h2
    · rw [List.getElem?_eq_none (by omega), List.getElem?_eq_none (by omega)]
theorem example_c (z : Int) : C 252 [.int .i64 z] (.agg (mshC (exM z))) [] := by
  refine start hC (nf := N252_law10_example) rfl rfl ?_
  simp [N252_law10_example, exM, mshC_eq, sptC_eq, fceC_eq, List.replicate]
theorem ready_c (m : Msh) : C 219 [.agg (mshC m)] (.bool (decide (m.s.length ≤ 80) && decide (1 ≤ m.f.length) && decide (m.f.length ≤ 80) && validM m)) [] := by
  refine start hC (nf := N219_law10_ready) rfl rfl ?_
  simp [N219_law10_ready, mshC_eq]
  refine brB_of (fun h1 => ?_) (fun h1 => ?_) <;> simp at h1 <;> simp [h1]
  · refine brB_of (fun h2 => ?_) (fun h2 => ?_) <;> simp at h2 <;> simp [h2]
    · refine brB_of (fun h3 => ?_) (fun h3 => ?_) <;> simp at h3 <;> simp [h3]
      · have k := rValid_c hC m (fun _ => by omega)
        simp only [mshC_eq] at k
        refine callW_of k (.inl rfl) ?_
        simp
        exact fun _ => ⟨⟨by omega, by omega⟩, by omega⟩
      · intro a b c; omega
    · intro a b c; omega
  · intro a b c; omega
end Go.Gv

set_option linter.unusedSimpArgs false
namespace Go.Gv
theorem ex_v3 : validM (exM 3) = true := by decide +kernel
theorem ex_v0 : validM (exM 0) = true := by decide +kernel
theorem ex_s3 : sumL (exM 3) = [12, 9] := by decide +kernel
theorem ex_f0 : flowL (exM 0) = [-1, -1] := by decide +kernel
theorem ex_f3 : flowL (exM 3) = [1, -1] := by decide +kernel
theorem ex_p3 : pathL (exM 3) 0 = [0, 1] := by decide +kernel
variable {C : CC} (hC : Closed prog C)
include hC
set_option maxHeartbeats 2000000 in
theorem awake10_c (dec : Nat → List UInt8) (hI : ∀ n : Nat, n < 100 → C 127 [.int .i64 n] (.str (dec n)) []) : C 211 [] (.bool true) [] := by
  have hz : ∀ z, smallM (exM z) = true → (exM z).s.length ≤ 100 ∧ (exM z).f.length ≤ 100 := fun z _ => by simp [exM]
  have e3 := example_c hC 3
  have e0 := example_c hC 0
  have k1 := Sums_c hC dec hI (exM 3) (hz 3)
  have k2 := Flow_c hC dec hI (exM 0) (hz 0)
  have k3 := Flow_c hC dec hI (exM 3) (hz 3)
  have k4 := Path_c hC dec hI (exM 3) (hz 3) 0
  rw [ex_v3, ex_s3] at k1
  rw [ex_v0, ex_f0] at k2
  rw [ex_v3, ex_f3] at k3
  rw [ex_v3, ex_p3, show inR1 (exM 3).f.length 0 = true from rfl] at k4
  have q1 := eqI_c hC false false [12, 9] [12, 9] (by simp) (by simp)
  have q2 := eqI_c hC false false [-1, -1] [-1, -1] (by simp) (by simp)
  have q3 := eqI_c hC false false [1, -1] [1, -1] (by simp) (by simp)
  have q4 := eqI_c hC false false [0, 1] [0, 1] (by simp) (by simp)
  simp [inR_eq] at k1 k2 k3 k4 q1 q2 q3 q4
  obtain ⟨A3, hA3⟩ : ∃ A, A = mshC (exM 3) := ⟨_, rfl⟩
  obtain ⟨A0, hA0⟩ : ∃ A, A = mshC (exM 0) := ⟨_, rfl⟩
  have c3 : ∃ a b : Bool × List (List D), A3 = [slx a.1 a.2, slx b.1 b.2] := ⟨(false, _), (false, _), by rw [hA3, mshC_eq]; rfl⟩
  have c0 : ∃ a b : Bool × List (List D), A0 = [slx a.1 a.2, slx b.1 b.2] := ⟨(false, _), (false, _), by rw [hA0, mshC_eq]; rfl⟩
  rw [← hA3] at e3 k1 k3 k4
  rw [← hA0] at e0 k2
  obtain ⟨a, b, rfl⟩ := c3
  obtain ⟨a', b', rfl⟩ := c0
  refine start hC (nf := N211_law10_awake) rfl rfl ?_
  simp [N211_law10_awake]
  refine callW_of e3 (.inr rfl) ?_
  simp
  refine callW_of k1 (.inr rfl) ?_
  simp
  refine callW_of e0 (.inr rfl) ?_
  simp
  refine callW_of k2 (.inr rfl) ?_
  simp
  refine callW_of e3 (.inr rfl) ?_
  simp
  refine callW_of k3 (.inr rfl) ?_
  simp
  refine callW_of e3 (.inr rfl) ?_
  simp
  refine callW_of k4 (.inr rfl) ?_
  simp
  refine callW_of q1 (.inl rfl) ?_
  simp
  refine callW_of q2 (.inl rfl) ?_
  simp
  refine callW_of q3 (.inl rfl) ?_
  simp
  refine callW_of q4 (.inl rfl) ?_
  simp
end Go.Gv

set_option linter.unusedSimpArgs false
namespace Go.Gv
variable {C : CC} (hC : Closed prog C)
include hC
end Go.Gv

set_option linter.unusedSimpArgs false
namespace Go.Gv
def qfl (m : Msh) (i : Nat) : List Int := (List.range i).map fun j => runF m j
@[simp] theorem qfl_take (m : Msh) (i : Nat) : List.take i (inR (qfl m i)) = inR (qfl m i) := List.take_of_length_le (by simp [qfl])
@[simp] theorem qfl_len (m : Msh) (i : Nat) : (qfl m i).length = i := by simp [qfl]
variable {C : CC} (hC : Closed prog C)
include hC
end Go.Gv

set_option linter.unusedSimpArgs false
namespace Go.Gv
def largeM (m : Msh) : Bool := (decide ((80 : Int) < (m.s.length : Int)) && decide ((m.s.length : Int) ≤ 2000)) || (decide ((80 : Int) < (m.f.length : Int)) && decide ((m.f.length : Int) ≤ 4000)) || decide ((2010 : Int) < (m.s.length : Int)) || decide ((4010 : Int) < (m.f.length : Int))
variable {C : CC} (hC : Closed prog C)
include hC
end Go.Gv

set_option linter.unusedSimpArgs false
set_option maxRecDepth 4000
namespace Go.Gv
def mvS (x y z : Int) (s : Spt) : Spt := ⟨s.x + x, s.y + y, s.z + z⟩
def mvM (m : Msh) (x y z : Int) : Msh := ⟨false, m.s.map (mvS x y z), false, m.f⟩
def offB (n : Int) : Bool := decide (n < -67108864) || decide (67108864 < n)
def mvE (m : Msh) (x y z : Int) : Int := if validM m = true then (if ([x, y, z].any offB) = true then 5 else if (m.s.all fun s => rightS (mvS x y z s)) = true then 0 else 5) else 1
def mvRw (x y z : Int) (ss : List Spt) (i : Nat) : List Spt := (ss.take i).map (mvS x y z) ++ ss.drop i
def mvR (x y z : Int) (ss : List Spt) (i : Nat) : List (List D) := (mvRw x y z ss i).map sptC
variable {C : CC} (hC : Closed prog C)
include hC
end Go.Gv

set_option linter.unusedSimpArgs false
namespace Go.Gv
def trP (x y : Int) (p : Pnt) : Pnt := (p.1 + x, p.2 + y)
def trT (x y : Int) (t : Tri) : Tri := (trP x y t.1, trP x y t.2.1, trP x y t.2.2)
section
variable {m : Msh} {x y z : Int} (hv : validM m = true) (hr : ∀ i, i < m.s.length → rightS (mvS x y z (spt m i)) = true)
include hv hr
omit hr
omit hv in
end
end Go.Gv

set_option linter.unusedSimpArgs false
set_option maxRecDepth 4000
namespace Go.Gv
theorem natR_len (l : List Nat) : (natR l).length = l.length := by simp [natR]
theorem natR_get {l : List Nat} {i : Nat} (h : i < l.length) : (natR l)[i]? = some [.int .i64 ((l[i] : Nat) : Int)] := by simp [natR, h]
theorem natR_isC (l : List Nat) : ∀ e ∈ natR l, e.length = 1 ∧ ∀ c ∈ e, isC1 c = true := by
  intro e he
  obtain ⟨x, _, rfl⟩ := List.mem_map.1 he
  simp
theorem natR_isF (l : List Nat) : ∀ e ∈ natR l, ∀ c ∈ e, isF1 c = true := by
  intro e he c hc
  obtain ⟨x, _, rfl⟩ := List.mem_map.1 he
  simp at hc
  subst hc
  rfl
theorem inR_get {l : List Int} {i : Nat} {v : Int} (h : l[i]? = some v) : (inR l)[i]? = some [.int .i64 v] := by simp [inR, h]
theorem inR_set (l : List Int) (i : Nat) (v : Int) : (inR l).set i [.int .i64 v] = inR (l.set i v) := by simp [inR]
theorem inR_rep (n : Nat) : List.replicate n [D.int .i64 0] = inR (List.replicate n 0) := by simp [inR]
theorem slx_ne (b : Bool) {es : List (List D)} (h : es ≠ []) : slx b es = .sl es := by
  cases es with
  | nil => exact absurd rfl h
  | cons x r => cases b <;> rfl
theorem sumL_ne {m : Msh} (h : m.f.length ≠ 0) : inR (sumL m) ≠ [] := by
  intro e
  have h1 := congrArg List.length e
  rw [inR_len] at h1
  unfold sumL at h1
  rw [List.length_map, List.length_range] at h1
  exact h h1
/-- A list that is filled from its begin. -/
def upT (f : Nat → Int) (n i : Nat) : List Int := (List.range n).map fun j => if j < i then f j else 0
theorem upT_len (f : Nat → Int) (n i : Nat) : (upT f n i).length = n := by simp [upT]
theorem upT_zero (f : Nat → Int) (n : Nat) : upT f n 0 = List.replicate n 0 := by
  unfold upT
  rw [List.eq_replicate_iff]
  refine ⟨by simp, fun b hb => ?_⟩
  obtain ⟨x, _, rfl⟩ := List.mem_map.1 hb
  simp
theorem upT_end (f : Nat → Int) (n : Nat) : upT f n n = (List.range n).map f := by
  unfold upT
  exact List.map_congr_left fun j hj => by rw [if_pos (List.mem_range.1 hj)]
theorem upT_set (f : Nat → Int) {n i : Nat} (h : i < n) : (upT f n i).set i (f i) = upT f n (i + 1) := by
  apply List.ext_getElem?
  intro x
  rw [List.getElem?_set]
  unfold upT
  simp only [List.getElem?_map, List.length_map, List.length_range]
  by_cases hx : x < n
  · by_cases ht : i = x
    · subst ht; simp [hx]
    · simp [hx, ht]
      by_cases h2 : x < i
      · simp [h2, show x < i + 1 by omega]
      · simp [h2, show ¬ x < i + 1 by omega]
  · have : (List.range n)[x]? = none := List.getElem?_eq_none (by simp; omega)
    rw [this]
    by_cases ht : i = x
    · omega
    · simp [ht]
theorem upT_nat (n : Nat) : inR (upT (fun j => (j : Int)) n n) = natR (List.range n) := by rw [upT_end]; simp [inR, natR]
/-- The sort of faces, as the seat's shelf gives it. -/
def SrtG (C : CC) : Prop := ∀ (m : Msh) (cs : List D), 0 < m.f.length → m.f.length < 2 ^ 62 → (∀ a b : Nat, a < m.f.length → b < m.f.length → C 375 (.int .i64 a :: .int .i64 b :: cs) (.int .i64 (sumF m b - sumF m a)) []) → ∃ Q, Ord m Q ∧ C 374 [.own 1 (natR (List.range m.f.length)), .fn 375 cs] .any [.own 1 (natR Q), .nilp]
variable {C : CC} (hC : Closed prog C)
include hC
theorem mtwice_c (m : Msh) (hv : validM m = true) (i : Nat) (hi : i < m.f.length) : C 376 [.agg (mshC m), .agg (fceC (fce m i))] (.int .i64 (twF m i)) [] := by
  have ht := valid_T hv hi
  have k1 := mtri_c hC m (fce m i) (valid_in hv hi)
  unfold okT at ht
  simp only [Bool.and_eq_true] at ht
  have k2 := mturn_c hC ht.1.1 ht.1.2 ht.2
  have e : turnP (triF m (fce m i)).1 (triF m (fce m i)).2.1 (triF m (fce m i)).2.2 = twF m i := rfl
  rw [e] at k2
  generalize triF m (fce m i) = t at *
  simp only [mshC_eq, fceC_eq, triD] at k1
  simp only [ptD] at k2
  refine start hC (nf := N376_mesh_twice) rfl rfl ?_
  simp [N376_mesh_twice, mshC_eq, fceC_eq]
  refine callW_of k1 (.inl rfl) ?_
  simp
  refine callW_of k2 (.inl rfl) ?_
  simp
theorem isFace_c (m : Msh) (x : Int) : C 377 [.agg (mshC m), .int .i64 x] (.bool (inR1 m.f.length x)) [] := by
  refine start hC (nf := N377_mesh_isFace) rfl rfl ?_
  unfold inR1
  simp [N377_mesh_isFace, mshC_eq]
  by_cases h : 0 ≤ x
  · simp [h]
  · simp [h]
theorem Twice_c (dec : Nat → List UInt8) (hI : ∀ n : Nat, n < 100 → C 127 [.int .i64 n] (.str (dec n)) []) (m : Msh) (hz : smallM m = true → m.s.length ≤ 100 ∧ m.f.length ≤ 100) (hv : validM m = true) (i : Nat) (hi : i < m.f.length) : C 373 [.agg (mshC m), .int .i64 i] (.tup [.int .i64 (twF m i), .int .i64 0]) [] := by
  have k1 := mValid_c hC dec hI m hz
  rw [hv] at k1
  have k2 := isFace_c hC m i
  have e : inR1 m.f.length (i : Int) = true := by simp [inR1, hi]
  rw [e] at k2
  have k3 := mtwice_c hC m hv i hi
  simp only [mshC_eq, fceC_eq] at k1 k2 k3
  refine start hC (nf := N373_mesh_Twice) rfl rfl ?_
  simp [N373_mesh_Twice, mshC_eq]
  refine callW_of k1 (.inl rfl) ?_
  simp
  refine callW_of k2 (.inl rfl) ?_
  simp [hi, fceC_eq]
  refine callW_of k3 (.inl rfl) ?_
  simp
  exact indW_of (by decide +kernel)
theorem Total_c (dec : Nat → List UInt8) (hI : ∀ n : Nat, n < 100 → C 127 [.int .i64 n] (.str (dec n)) []) (m : Msh) (hz : smallM m = true → m.s.length ≤ 100 ∧ m.f.length ≤ 100) (hv : validM m = true) (hm : m.f.length ≤ 100) : C 372 [.agg (mshC m)] (.tup [.int .i64 (totF m), .int .i64 0]) [] := by
  have k1 := mValid_c hC dec hI m hz
  rw [hv] at k1
  have hb := tot_bd hv hm
  simp only [mshC_eq] at k1
  refine start hC (nf := N372_mesh_Total) rfl rfl ?_
  simp [N372_mesh_Total, mshC_eq]
  refine callW_of k1 (.inl rfl) ?_
  simp
  refine loop_of Nat (fun i => [(1, .ptr (mshC m)), (4, .int .i64 (sumR (twF m) i)), (11, slx m.fn (m.f.map fceC)), (12, .int .i64 m.f.length), (13, .int .i64 i)]) (fun i => i ≤ m.f.length) (fun i => m.f.length - i) 0 (by simp) (by simp [mshC_eq, sumR]) ?_
  intro i hi
  simp
  refine brB_of (fun h => ?_) (fun h => ?_) <;> simp at h
  · have hw : IntKind.wrap .i64 ((i : Int) + 1) = ((i + 1 : Nat) : Int) := wrap_i64 (by omega) (by omega)
    have k2 := mtwice_c hC m hv i h
    have g1 := sumR_mono (f := twF m) (n := m.f.length) (k := i + 1) (fun j hj => (tw_nn hv hj).1) (by omega)
    have g2 := sumR_nn (f := twF m) (n := i + 1) (fun j hj => (tw_nn hv (by omega)).1)
    have e1 : sumR (twF m) (i + 1) = sumR (twF m) i + twF m i := rfl
    have w1 : IntKind.wrap .i64 (sumR (twF m) i + twF m i) = sumR (twF m) (i + 1) := wrap_i64 e1.symm (by unfold totF at hb; omega)
    simp only [mshC_eq, fceC_eq] at k2
    simp [h, fceC_eq, mshC_eq]
    refine callW_of k2 (.inl rfl) ?_
    simp [w1, hw]
    exact ⟨i + 1, by omega, by omega, by simp [mshC_eq]⟩
  · have ei : i = m.f.length := by omega
    subst ei
    simp [h, totF]
theorem acc1_c (m : Msh) (hv : validM m = true) (a b : Nat) (ha : a < m.f.length) (hb : b < m.f.length) : C 375 [.int .i64 a, .int .i64 b, .ptr [.ptr (grC m)]] (.int .i64 (sumF m b - sumF m a)) [] := by
  have ba := sumF_bd hv ha
  have bb := sumF_bd hv hb
  have w : IntKind.wrap .i64 (sumF m b - sumF m a) = sumF m b - sumF m a := wrap_i64 rfl (by omega)
  have h0 : m.f.length ≠ 0 := by omega
  have hsl : slx true (smR m m.f.length) = .sl (inR (sumL m)) := by
    rw [smR_L]
    exact slx_ne true (sumL_ne h0)
  have ga : (inR (sumL m))[a]? = some [.int .i64 (sumF m a)] := inR_get (by simp [sumL, ha])
  have gb : (inR (sumL m))[b]? = some [.int .i64 (sumF m b)] := inR_get (by simp [sumL, hb])
  refine start hC (nf := N375_relief_Accumulated_1) rfl rfl ?_
  simp [N375_relief_Accumulated_1, grC_eq, hsl, idxW_some ga, idxW_some gb, w]
  exact indW_of (by decide +kernel)
end Go.Gv

set_option linter.unusedSimpArgs false
set_option maxRecDepth 4000
namespace Go.Gv
variable {C : CC} (hC : Closed prog C)
include hC
set_option maxHeartbeats 2000000 in
theorem Accumulated_c (hG : SrtG C) (dec : Nat → List UInt8) (hI : ∀ n : Nat, n < 100 → C 127 [.int .i64 n] (.str (dec n)) []) (m : Msh) (hz : smallM m = true → m.s.length ≤ 100 ∧ m.f.length ≤ 100) (h1 : validM m = true → 0 < m.f.length) : C 371 [.agg (mshC m)] (if validM m then .tup [.sl (inR (gatL m)), .int .i64 0] else .tup [.nils, .int .i64 1]) [] := by
  have k1 := made_c hC dec hI m hz
  simp only [mshC_eq] at k1
  cases hv : validM m
  · rw [hv] at k1
    simp at k1
    refine start hC (nf := N371_relief_Accumulated) rfl rfl ?_
    simp [N371_relief_Accumulated, mshC_eq]
    refine callW_of k1 (.inr rfl) ?_
    simp
  have hm := (hz (by simp only [validM, Bool.and_eq_true] at hv; exact hv.1)).2
  rw [hv] at k1
  simp only [if_true] at k1
  have hb := tot_bd hv hm
  obtain ⟨Q, hO, k4⟩ := hG m [.ptr [.ptr (grC m)]] (h1 hv) (by omega) (fun a b ha hb => acc1_c hC m hv a b ha hb)
  have kF := flow_c hC m hv
  have hQl := hO.len
  have hsl : ∃ d, d = slx true (smR m m.f.length) := ⟨_, rfl⟩
  have gE : grC m = [.sl (nbA m), slx true (smR m m.f.length), slx true (ctR m m.f.length)] := grC_eq m
  have kT := fun i hi => Twice_c hC dec hI m hz hv i hi
  simp only [mshC_eq] at kT
  have hsm : (smR m m.f.length).length = m.f.length := smR_len m m.f.length
  have hge := natR_isC Q
  have hgf := natR_isF Q
  have hQR := natR_len Q
  have hQg : ∀ (p : Nat) (h : p < Q.length), (natR Q)[p]? = some [.int .i64 ((Q[p] : Nat) : Int)] := fun p h => natR_get h
  have hfl : ∀ (i : Nat) (h : i < m.f.length), (inR (flowL m))[i]? = some [.int .i64 (runF m i)] := fun i h => inR_get (by simp [flowL, h])
  generalize hRQ : natR Q = RQ at *
  refine start hC (nf := N371_relief_Accumulated) rfl rfl ?_
  simp [N371_relief_Accumulated, mshC_eq]
  rw [gE] at k1 k4 kF
  have hSl : (slx true (smR m m.f.length) = .nils ∧ m.f.length = 0) ∨ slx true (smR m m.f.length) = .sl (smR m m.f.length) := by
    cases hS : smR m m.f.length with
    | nil => exact .inl ⟨rfl, by have := congrArg List.length hS; rw [smR_len] at this; simpa using this⟩
    | cons e r => exact .inr rfl
  refine callW_of k1 (.inr rfl) ?_
  simp [hsm]
  generalize slx true (smR m m.f.length) = Ga at *
  generalize slx true (ctR m m.f.length) = Gb at *
  generalize nbA m = Gc at *
  refine ⟨by omega, ?_⟩
  have r0 := inR_rep m.f.length
  have u1 := upT_zero (twF m) m.f.length
  have u2 := upT_zero (fun j => (j : Int)) m.f.length
  have v1 : ∀ i, i < m.f.length → (inR (upT (twF m) m.f.length i)).set i [.int .i64 (twF m i)] = inR (upT (twF m) m.f.length (i + 1)) := fun i h => by rw [inR_set, upT_set _ h]
  have v2 : ∀ i, i < m.f.length → (inR (upT (fun j => (j : Int)) m.f.length i)).set i [.int .i64 (i : Int)] = inR (upT (fun j => (j : Int)) m.f.length (i + 1)) := fun i h => by rw [inR_set]; exact congrArg inR (upT_set (fun j => (j : Int)) h)
  have x1 : ∀ i, (inR (upT (twF m) m.f.length i)).length = m.f.length := fun i => by rw [inR_len, upT_len]
  have x2 : ∀ i, (inR (upT (fun j => (j : Int)) m.f.length i)).length = m.f.length := fun i => by rw [inR_len, upT_len]
  have y1 : inR (upT (twF m) m.f.length m.f.length) = inR (acR m []) := by rw [upT_end, acR_nil]
  have y2 := upT_nat m.f.length
  have wA : ∀ i j, j < m.f.length → (inR (upT (twF m) m.f.length i))[j]? = some [.int .i64 (if j < i then twF m j else 0)] := fun i j h => inR_get (by simp [upT, h])
  have wB : ∀ i j, j < m.f.length → (inR (upT (fun j => (j : Int)) m.f.length i))[j]? = some [.int .i64 (if j < i then (j : Int) else 0)] := fun i j h => inR_get (by simp [upT, h])
  rw [r0]
  generalize hA : (fun i => inR (upT (twF m) m.f.length i)) = A
  have hA' : ∀ i, inR (upT (twF m) m.f.length i) = A i := fun i => by rw [← hA]
  generalize hB : (fun i => inR (upT (fun j => (j : Int)) m.f.length i)) = B
  have hB' : ∀ i, inR (upT (fun j => (j : Int)) m.f.length i) = B i := fun i => by rw [← hB]
  simp only [hA', hB'] at v1 v2 x1 x2 y1 y2 wA wB
  rw [← u1, hA']
  clear hA hB
  have z0 : A 0 = B 0 := by rw [← hA', ← hB', u1, u2]
  refine loop_of Nat (fun i => [(1, .ptr [slx m.sn (m.s.map sptC), slx m.fn (m.f.map fceC)]), (4, .adr (.r 10064) 0 0), (6, .ref (.r 10096) 0 m.f.length), (7, .ref (.r 10112) 0 m.f.length), (34, .int .i64 m.f.length), (35, .int .i64 i), (10064, .blk 1 [[.ptr [.sl Gc, Ga, Gb]]]), (10096, .blk 1 (A i)), (10112, .blk 1 (B i))])
    (fun i => i ≤ m.f.length) (fun i => m.f.length - i) 0 (by simp) (by simp [z0]) ?_
  intro i hi
  simp
  refine brB_of (fun h => ?_) (fun h => ?_) <;> simp at h
  · have hw : IntKind.wrap .i64 ((i : Int) + 1) = ((i + 1 : Nat) : Int) := wrap_i64 (by omega) (by omega)
    have kTi := kT i h
    have e1 := v1 i h
    have e2 := v2 i h
    have f1 := x1 i
    have f2 := x2 i
    simp [h]
    refine callW_of kTi (.inl rfl) ?_
    obtain ⟨p, gA⟩ : ∃ p, (A i)[i]'(by omega) = [.int .i64 p] := by
      have g2 := wA i i h
      exact ⟨_, (List.getElem?_eq_some_iff.1 g2).2⟩
    obtain ⟨q, gB⟩ : ∃ p, (B i)[i]'(by omega) = [.int .i64 p] := by
      have g2 := wB i i h
      exact ⟨_, (List.getElem?_eq_some_iff.1 g2).2⟩
    simp [f1, f2, h, e1, e2, hw]
    exact ⟨by rw [gA]; exact Nat.le_refl _, by rw [gB]; exact Nat.le_refl _, i + 1, by omega, by omega, by omega, by rw [gA]; exact e1, by rw [gB]; exact e2⟩
  · have ei : i = m.f.length := by omega
    subst ei
    have n0 := natR_len (List.range m.f.length)
    rw [List.length_range] at n0
    have n1 := natR_isC (List.range m.f.length)
    simp [h, y1, y2]
    refine ⟨n0, fun e he => (n1 e he).2, ?_⟩
    refine callUW_of k4 (.inr (fun e he c hc => hgf e he c hc)) (by rw [hQR, n0, hQl]) hge ?_
    simp
    refine callW_of kF (.inr rfl) ?_
    simp [hQR, hQl]
    generalize inR (flowL m) = Fl at *
    refine loop_of Nat (fun p => [(6, .ref (.r 10096) 0 m.f.length), (9, .sl Fl), (60, .ref (.r 10960) 0 m.f.length), (61, .int .i64 m.f.length), (62, .int .i64 p), (10096, .blk 1 (inR (acR m (Q.take p)))), (10960, .blk 1 RQ)])
      (fun p => p ≤ m.f.length) (fun p => m.f.length - p) 0 (by simp) (by simp) ?_
    intro p hp
    simp
    refine brB_of (fun h2 => ?_) (fun h2 => ?_) <;> simp at h2
    · have hw : IntKind.wrap .i64 ((p : Int) + 1) = ((p + 1 : Nat) : Int) := wrap_i64 (by omega) (by omega)
      have hpQ : p < Q.length := by omega
      have hx := hO.lt hpQ
      have hq := hQg p hpQ
      have hf := hfl Q[p] hx
      have hat := accP_at hO hpQ
      have htk : Q.take (p + 1) = Q.take p ++ [Q[p]] := List.take_succ_eq_append_getElem hpQ
      have hlA : (inR (acR m (Q.take p))).length = m.f.length := by rw [inR_len, acR_len]
      by_cases hneg : runF m Q[p] < 0
      · have hst := acR_stay (m := m) (P := Q.take p) (i := Q[p]) hneg
        rw [← htk] at hst
        simp [h2, rowW_some hq, hQR, hQl, idxW_some hf, show ¬ 0 ≤ runF m Q[p] by omega, hw]
        exact ⟨p + 1, by omega, by omega, rfl, by rw [hst]⟩
      · obtain ⟨t, ht⟩ : ∃ t : Nat, runF m Q[p] = (t : Int) := ⟨(runF m Q[p]).toNat, by omega⟩
        have htl : t < m.f.length := by rcases runF_bd m Q[p] with e | e | ⟨_, e, _⟩ <;> omega
        have gt : (inR (acR m (Q.take p)))[t]? = some [.int .i64 (accP m (Q.take p) t)] := inR_get (acR_get m _ htl)
        have gi : (inR (acR m (Q.take p)))[Q[p]]? = some [.int .i64 (gatF m Q[p])] := inR_get (by rw [acR_get m _ hx, hat])
        have hse := acR_give (m := m) (P := Q.take p) (i := Q[p]) ht
        rw [← htk] at hse
        have hse2 : (inR (acR m (Q.take p))).set t [.int .i64 (accP m (Q.take p) t + gatF m Q[p])] = inR (acR m (Q.take (p + 1))) := by rw [inR_set, hse]
        have hbd := accP_bd hv hO (p := p + 1) htl
        rw [htk, accP_snoc] at hbd
        have hgv : giv m t Q[p] = gatF m Q[p] := by unfold giv; rw [if_pos ht]
        rw [hgv] at hbd
        have w1 : IntKind.wrap .i64 (accP m (Q.take p) t + gatF m Q[p]) = accP m (Q.take p) t + gatF m Q[p] := wrap_i64 rfl (by omega)
        obtain ⟨_, gt2⟩ := List.getElem?_eq_some_iff.1 gt
        generalize inR (acR m (Q.take p)) = R at *
        simp [h2, rowW_some hq, hQR, hQl, idxW_some hf, ht, rowW_some gt, rowW_some gi, hlA, htl, hx, w1, gt2, hse2, hw]
        exact ⟨indW_of (by decide +kernel), p + 1, by omega, by omega, by omega, rfl⟩
    · have ep : p = m.f.length := by omega
      subst ep
      have hfin : inR (acR m (Q.take m.f.length)) = inR (gatL m) := by rw [List.take_of_length_le (by omega), acR_all hO.perm]
      have hgl : (inR (gatL m)).length = m.f.length := by simp [gatL]
      simp [h2, hfin]
      exact ⟨by simp [gatL], by rw [List.take_of_length_le (by omega)]⟩
end Go.Gv

set_option linter.unusedSimpArgs false
set_option maxRecDepth 4000
namespace Go.Gv
def outS (m : Msh) (i : Nat) : Int := sumR (fun x => if runF m x < 0 then gatF m x else 0) i
theorem outS_all (m : Msh) : outS m m.f.length = totF m := gat_out m
theorem outS_bd {m : Msh} (hv : validM m = true) {i : Nat} (hi : i ≤ m.f.length) : 0 ≤ outS m i ∧ outS m i ≤ totF m := by
  have h0 : ∀ x, x < m.f.length → 0 ≤ (if runF m x < 0 then gatF m x else 0) := fun x _ => by
    split
    · exact (gat_bd hv x).1
    · exact Int.le_refl _
  have h1 := sumR_mono (n := m.f.length) (k := i) h0 hi
  have h2 := sumR_nn (n := i) (fun x hx => h0 x (by omega))
  rw [← outS_all]
  exact ⟨h2, h1⟩
def ownS (m : Msh) (i k : Nat) : Int := twF m i + sumR (giv m i) k
theorem ownS_all {m : Msh} {i : Nat} (hi : i < m.f.length) : ownS m i m.f.length = gatF m i := (gat_eq m hi).symm
theorem ownS_bd {m : Msh} (hv : validM m = true) {i k : Nat} (hi : i < m.f.length) (hk : k ≤ m.f.length) : 0 ≤ ownS m i k ∧ ownS m i k ≤ totF m := by
  have h1 := sumR_mono (f := giv m i) (n := m.f.length) (k := k) (fun y _ => giv_nn hv i y) hk
  have h2 := sumR_nn (f := giv m i) (n := k) (fun y _ => giv_nn hv i y)
  have h3 := (tw_nn hv hi).1
  have h4 := (gat_bd hv i).2
  rw [← ownS_all hi] at h4
  unfold ownS at *
  omega
variable {C : CC} (hC : Closed prog C)
include hC
set_option maxHeartbeats 4000000 in
theorem ReliefGathers_c (hG : SrtG C) (dec : Nat → List UInt8) (hI : ∀ n : Nat, n < 100 → C 127 [.int .i64 n] (.str (dec n)) []) (m : Msh) : C 370 [.agg (mshC m)] (.bool true) [] := by
  have ka := awake10_c hC dec hI
  have kr := ready_c hC m
  refine start hC (nf := N370_law10_ReliefGathers) rfl rfl ?_
  simp only [mshC_eq] at kr
  simp [N370_law10_ReliefGathers, mshC_eq]
  refine callW_of ka (.inl rfl) ?_
  simp
  refine callW_of kr (.inl rfl) ?_
  cases hrd : (decide (m.s.length ≤ 80) && decide (1 ≤ m.f.length) && decide (m.f.length ≤ 80) && validM m)
  · simp
  simp only [Bool.and_eq_true, decide_eq_true_eq] at hrd
  obtain ⟨⟨⟨r1, r2⟩, r3⟩, hv⟩ := hrd
  have hz : smallM m = true → m.s.length ≤ 100 ∧ m.f.length ≤ 100 := fun _ => by omega
  have k1 := Flow_c hC dec hI m hz
  have k2 := Accumulated_c hC hG dec hI m hz (fun _ => by omega)
  have k3 := Total_c hC dec hI m hz hv (by omega)
  have kT := fun i hi => Twice_c hC dec hI m hz hv i hi
  have hb := tot_bd hv (by omega)
  rw [hv] at k1 k2
  simp only [if_true] at k1 k2
  have hfl : ∀ (i : Nat) (h : i < m.f.length), (inR (flowL m))[i]? = some [.int .i64 (runF m i)] := fun i h => inR_get (by simp [flowL, h])
  have hga : ∀ (i : Nat) (h : i < m.f.length), (inR (gatL m))[i]? = some [.int .i64 (gatF m i)] := fun i h => inR_get (by simp [gatL, h])
  have l1 : (inR (flowL m)).length = m.f.length := by simp [flowL]
  have l2 : (inR (gatL m)).length = m.f.length := by simp [gatL]
  generalize inR (flowL m) = F at *
  generalize inR (gatL m) = G at *
  simp only [mshC_eq] at k1 k2 k3 kT
  simp [mshC_eq]
  refine callW_of k1 (.inr rfl) ?_
  simp [mshC_eq]
  refine callW_of k2 (.inr rfl) ?_
  simp [mshC_eq]
  refine callW_of k3 (.inl rfl) ?_
  simp [l1, l2]
  refine loop_of Nat (fun i => [(1, .ptr (mshC m)), (3, .sl F), (5, .sl G), (7, .int .i64 (totF m)), (9, .int .i64 (outS m i)), (61, .int .i64 m.f.length), (62, .int .i64 i)])
    (fun i => i ≤ m.f.length) (fun i => m.f.length - i) 0 (by simp) (by simp [mshC_eq, outS, sumR]) ?_
  intro i hi
  simp
  refine brB_of (fun h => ?_) (fun h => ?_) <;> simp at h
  rotate_left
  · have ei : i = m.f.length := by omega
    subst ei
    simp [h, outS_all]
  have hw : IntKind.wrap .i64 ((i : Int) + 1) = ((i + 1 : Nat) : Int) := wrap_i64 (by omega) (by omega)
  have kTi := kT i h
  simp [h, mshC_eq]
  refine callW_of kTi (.inl rfl) ?_
  simp [l1]
  refine loop_of Nat (fun k => [(1, .ptr (mshC m)), (3, .sl F), (5, .sl G), (7, .int .i64 (totF m)), (9, .int .i64 (outS m i)), (10, .int .i64 i), (11, .int .i64 (ownS m i k)), (61, .int .i64 m.f.length), (62, .int .i64 i), (73, .sl F), (74, .int .i64 m.f.length), (75, .int .i64 k)])
    (fun k => k ≤ m.f.length) (fun k => m.f.length - k) 0 (by simp) (by simp [mshC_eq, ownS, sumR]) ?_
  intro k hk
  simp
  refine brB_of (fun h2 => ?_) (fun h2 => ?_) <;> simp at h2
  · have hwk : IntKind.wrap .i64 ((k : Int) + 1) = ((k + 1 : Nat) : Int) := wrap_i64 (by omega) (by omega)
    have hfk := hfl k h2
    have hgk := hga k h2
    have hs : ownS m i (k + 1) = ownS m i k + giv m i k := by unfold ownS; rw [sumR]; omega
    have hbd := ownS_bd hv h (show k + 1 ≤ m.f.length by omega)
    by_cases c : runF m k = (i : Int)
    · have e : giv m i k = gatF m k := by unfold giv; rw [if_pos c]
      rw [e] at hs
      have w1 : IntKind.wrap .i64 (ownS m i k + gatF m k) = ownS m i (k + 1) := wrap_i64 hs.symm (by omega)
      simp [h2, idxW_some hfk, idxW_some hgk, c, w1, hwk]
      exact ⟨k + 1, by omega, by omega, by simp [mshC_eq]⟩
    · have e : giv m i k = 0 := by unfold giv; rw [if_neg c]
      rw [e, Int.add_zero] at hs
      simp [h2, idxW_some hfk, c, hwk]
      exact ⟨k + 1, by omega, by omega, by simp [mshC_eq, hs]⟩
  · have ek : k = m.f.length := by omega
    subst ek
    have hfi := hfl i h
    have hgi := hga i h
    have ho := ownS_all h
    have hs : outS m (i + 1) = outS m i + if runF m i < 0 then gatF m i else 0 := rfl
    have hbd := outS_bd hv (show i + 1 ≤ m.f.length by omega)
    by_cases c : runF m i < 0
    · rw [if_pos c] at hs
      have w1 : IntKind.wrap .i64 (outS m i + gatF m i) = outS m (i + 1) := wrap_i64 hs.symm (by omega)
      simp [h2, idxW_some hfi, idxW_some hgi, ho, c, w1, hw]
      exact ⟨i + 1, by omega, by omega, by simp [mshC_eq]⟩
    · rw [if_neg c, Int.add_zero] at hs
      simp [h2, idxW_some hfi, idxW_some hgi, ho, c, hw]
      exact ⟨i + 1, by omega, by omega, by simp [mshC_eq, hs]⟩
end Go.Gv
