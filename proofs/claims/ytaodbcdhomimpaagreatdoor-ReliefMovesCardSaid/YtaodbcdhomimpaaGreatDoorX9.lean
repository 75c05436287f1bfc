/-
  Texts of the proof: L10, L11, GvT3, L13, L14, I1, I2, I3, I4, H13, H14, H15, I5, I6, J29, L12, L15, L16, L17, L18.
-/
import Derived.Test.YtaodbcdhomimpaaGreatDoorX8
import Derived.Test.YtaodbcdhomimpaaGreatDoorX7
import Derived.Shelf.SlSortCmp.Whole1
import Derived.Shelf.SlSortCmp.NoneTotal
set_option linter.all false
set_option linter.unusedSimpArgs false
namespace Go.Gv
/-! ### Sums -/
def sumR (f : Nat → Int) : Nat → Int
  | 0 => 0
  | n + 1 => sumR f n + f n
theorem sumR_congr {f g : Nat → Int} : ∀ {n : Nat}, (∀ i, i < n → f i = g i) → sumR f n = sumR g n
  | 0, _ => rfl
  | n + 1, h => by rw [sumR, sumR, sumR_congr (fun i hi => h i (by omega)), h n (by omega)]
theorem sumR_add (f g : Nat → Int) : ∀ n, sumR (fun i => f i + g i) n = sumR f n + sumR g n
  | 0 => rfl
  | n + 1 => by rw [sumR, sumR, sumR, sumR_add f g n]; omega
theorem sumR_zero : ∀ n, sumR (fun _ => 0) n = 0
  | 0 => rfl
  | n + 1 => by rw [sumR, sumR_zero n]; rfl
theorem sumR_mul (c : Int) (f : Nat → Int) : ∀ n, sumR (fun i => c * f i) n = c * sumR f n
  | 0 => by simp [sumR]
  | n + 1 => by rw [sumR, sumR, sumR_mul c f n, Int.mul_add]
theorem sumR_one (c : Int) (j : Nat) : ∀ n, sumR (fun i => if i = j then c else 0) n = if j < n then c else 0
  | 0 => by simp [sumR]
  | n + 1 => by
    rw [sumR, sumR_one c j n]
    by_cases h : n = j
    · subst h; rw [if_neg (by omega), if_pos rfl, if_pos (by omega)]; omega
    · rw [if_neg h]
      by_cases h2 : j < n
      · rw [if_pos h2, if_pos (by omega)]; omega
      · rw [if_neg h2, if_neg (by omega)]; rfl
theorem sumR_swap (f : Nat → Nat → Int) (m : Nat) : ∀ n, sumR (fun i => sumR (f i) m) n = sumR (fun k => sumR (fun i => f i k) n) m
  | 0 => by rw [sumR]; exact (sumR_zero m).symm
  | n + 1 => by
    rw [sumR, sumR_swap f m n, ← sumR_add]
    exact sumR_congr fun k _ => rfl
theorem sumR_nn {f : Nat → Int} : ∀ {n : Nat}, (∀ i, i < n → 0 ≤ f i) → 0 ≤ sumR f n
  | 0, _ => Int.le_refl _
  | n + 1, h => by
    have h1 := sumR_nn (n := n) fun i hi => h i (by omega)
    have h2 := h n (by omega)
    rw [sumR]; omega
theorem sumR_le {f g : Nat → Int} : ∀ {n : Nat}, (∀ i, i < n → f i ≤ g i) → sumR f n ≤ sumR g n
  | 0, _ => Int.le_refl _
  | n + 1, h => by
    have h1 := sumR_le (n := n) fun i hi => h i (by omega)
    have h2 := h n (by omega)
    rw [sumR, sumR]; omega
theorem sumR_const (c : Int) : ∀ n : Nat, sumR (fun _ => c) n = n * c
  | 0 => by simp [sumR]
  | n + 1 => by
    rw [sumR, sumR_const c n, Int.natCast_succ, Int.add_mul]; omega
/-! ### Paths -/
def cntN (l : List Int) (x : Nat) : Int := ((l.filter fun y => decide (y = (x : Int))).length : Int)
theorem cntN_nil (x : Nat) : cntN [] x = 0 := rfl
theorem cntN_cons (i : Nat) (l : List Int) (x : Nat) : cntN ((i : Int) :: l) x = (if x = i then 1 else 0) + cntN l x := by
  unfold cntN
  by_cases h : x = i
  · subst h; simp; omega
  · rw [List.filter_cons_of_neg (by simp; omega), if_neg h]; omega
theorem cntN_nn (l : List Int) (x : Nat) : 0 ≤ cntN l x := by unfold cntN; omega
theorem cntN_none {l : List Int} {x : Nat} (h : ∀ y ∈ l, y ≠ (x : Int)) : cntN l x = 0 := by
  unfold cntN
  rw [List.filter_eq_nil_iff.2 (fun y hy => by simpa using h y hy)]
  rfl
theorem pth_succ (m : Msh) (k : Nat) {f : Int} (h : 0 ≤ f) : pth m (k + 1) f = f :: pth m k (runF m f.toNat) := by
  rw [pth, if_neg (by omega)]
/-- What is on a path lies not above its begin. -/
theorem pth_low (m : Msh) : ∀ (k : Nat) (i : Nat), ∀ y ∈ pth m k (i : Int), 0 ≤ y ∧ sumF m y.toNat ≤ sumF m i
  | 0, i, y, h => by simp [pth] at h
  | k + 1, i, y, h => by
    rw [pth_succ m k (by omega), Int.toNat_natCast] at h
    rcases List.mem_cons.1 h with rfl | h
    · exact ⟨by omega, by rw [Int.toNat_natCast]; exact Int.le_refl _⟩
    · rcases runF_bd m i with e | e | ⟨e1, e2, e3⟩
      · rw [pth_neg m k (by omega)] at h; cases h
      · rw [pth_neg m k (by omega)] at h; cases h
      · have ht : runF m i = ((runF m i).toNat : Int) := by omega
        rw [ht] at h
        obtain ⟨h1, h2⟩ := pth_low m k _ y h
        exact ⟨h1, by omega⟩
theorem cnt_one (m : Msh) : ∀ (k : Nat) (i x : Nat), cntN (pth m k (i : Int)) x ≤ 1
  | 0, i, x => by rw [pth]; exact Int.zero_le_ofNat 1
  | k + 1, i, x => by
    rw [pth_succ m k (by omega), Int.toNat_natCast, cntN_cons]
    rcases runF_bd m i with e | e | ⟨e1, e2, e3⟩
    · rw [pth_neg m k (by omega), cntN_nil]; split <;> omega
    · rw [pth_neg m k (by omega), cntN_nil]; split <;> omega
    · have ht : runF m i = ((runF m i).toNat : Int) := by omega
      rw [ht]
      have h1 := cnt_one m k (runF m i).toNat x
      by_cases hx : x = i
      · subst hx
        rw [if_pos rfl, cntN_none (fun y hy e => ?_)]
        · omega
        · have := (pth_low m k _ y hy).2
          rw [e, Int.toNat_natCast] at this
          omega
      · rw [if_neg hx]; omega
/-- Each face on a path but its begin is where the water of the one before it runs. -/
theorem cnt_step (m : Msh) : ∀ (k : Nat) (i : Nat), i < m.f.length → rnk m i < k → ∀ x : Nat, cntN (pth m k (i : Int)) x = (if x = i then 1 else 0) + sumR (fun y => if runF m y = (x : Int) then cntN (pth m k (i : Int)) y else 0) m.f.length
  | 0, i, _, hr, x => by omega
  | k + 1, i, hi, hr, x => by
    rw [pth_succ m k (by omega), Int.toNat_natCast]
    have e0 : sumR (fun y => if runF m y = (x : Int) then cntN ((i : Int) :: pth m k (runF m i)) y else 0) m.f.length = (if runF m i = (x : Int) then 1 else 0) + sumR (fun y => if runF m y = (x : Int) then cntN (pth m k (runF m i)) y else 0) m.f.length := by
      have h1 : ∀ y, (if runF m y = (x : Int) then cntN ((i : Int) :: pth m k (runF m i)) y else 0) = (if y = i then (if runF m i = (x : Int) then 1 else 0) else 0) + (if runF m y = (x : Int) then cntN (pth m k (runF m i)) y else 0) := by
        intro y
        rw [cntN_cons]
        by_cases hy : y = i
        · subst hy
          simp only [if_true]
          split <;> omega
        · simp only [if_neg hy]
          split <;> omega
      simp only [h1]
      rw [sumR_add, sumR_one, if_pos hi]
    rw [e0, cntN_cons]
    rcases runF_bd m i with e | e | ⟨e1, e2, e3⟩
    · rw [pth_neg m k (by omega)]
      simp only [cntN_nil]
      have : sumR (fun y => if runF m y = (x : Int) then (0 : Int) else 0) m.f.length = 0 := by
        rw [sumR_congr (g := fun _ => 0) (fun y _ => by split <;> rfl), sumR_zero]
      rw [this, if_neg (show ¬ runF m i = (x : Int) by omega)]
      omega
    · rw [pth_neg m k (by omega)]
      simp only [cntN_nil]
      have : sumR (fun y => if runF m y = (x : Int) then (0 : Int) else 0) m.f.length = 0 := by
        rw [sumR_congr (g := fun _ => 0) (fun y _ => by split <;> rfl), sumR_zero]
      rw [this, if_neg (show ¬ runF m i = (x : Int) by omega)]
      omega
    · have ht : runF m i = ((runF m i).toNat : Int) := by omega
      have hlt : (runF m i).toNat < m.f.length := by omega
      have hr2 : rnk m (runF m i).toNat < k := by
        have := rnk_lt hlt e3
        omega
      have ih := cnt_step m k (runF m i).toNat hlt hr2 x
      rw [← ht] at ih
      rw [ih]
      have : (if x = (runF m i).toNat then (1 : Int) else 0) = if runF m i = (x : Int) then 1 else 0 := by
        by_cases h : runF m i = (x : Int)
        · rw [if_pos h, if_pos (by omega)]
        · rw [if_neg h, if_neg (by omega)]
      rw [this]
/-! ### What comes together -/
def twF (m : Msh) (i : Nat) : Int := turnT (triF m (fce m i))
def gatF (m : Msh) (x : Nat) : Int := sumR (fun j => twF m j * cntN (pathL m (j : Int)) x) m.f.length
def totF (m : Msh) : Int := sumR (twF m) m.f.length
theorem gat_eq (m : Msh) {x : Nat} (hx : x < m.f.length) : gatF m x = twF m x + sumR (fun y => if runF m y = (x : Int) then gatF m y else 0) m.f.length := by
  unfold gatF
  have h1 : ∀ j, j < m.f.length → twF m j * cntN (pathL m (j : Int)) x = (if j = x then twF m x else 0) + sumR (fun y => if runF m y = (x : Int) then twF m j * cntN (pathL m (j : Int)) y else 0) m.f.length := by
    intro j hj
    have h := cnt_step m m.f.length j hj (rnk_le hj) x
    unfold pathL
    rw [h, Int.mul_add]
    congr 1
    · by_cases e : x = j
      · subst e; simp
      · rw [if_neg e, if_neg (Ne.symm e)]; simp
    · rw [← sumR_mul]
      exact sumR_congr fun y _ => by split <;> simp
  rw [sumR_congr h1, sumR_add, sumR_one, if_pos hx, sumR_swap]
  congr 1
  refine sumR_congr fun y _ => ?_
  split
  · rfl
  · exact sumR_zero _
theorem tw_nn {m : Msh} (hv : validM m = true) {i : Nat} (hi : i < m.f.length) : 0 ≤ twF m i ∧ twF m i ≤ 2251799813685248 := by
  have h := (valid_f hv hi).2
  have ht := valid_T hv hi
  unfold okT at ht
  simp only [Bool.and_eq_true] at ht
  have := turn_bd ht.1.1 ht.1.2 ht.2
  unfold twF
  unfold turnT turnP at *
  omega
theorem tot_bd {m : Msh} (hv : validM m = true) (hm : m.f.length ≤ 100) : 0 ≤ totF m ∧ totF m ≤ 225179981368524800 := by
  refine ⟨sumR_nn fun i hi => (tw_nn hv hi).1, ?_⟩
  have h1 := sumR_le (f := twF m) (g := fun _ => 2251799813685248) (n := m.f.length) fun i hi => (tw_nn hv hi).2
  rw [sumR_const] at h1
  unfold totF
  omega
theorem gat_bd {m : Msh} (hv : validM m = true) (x : Nat) : 0 ≤ gatF m x ∧ gatF m x ≤ totF m := by
  refine ⟨sumR_nn fun i hi => Int.mul_nonneg (tw_nn hv hi).1 (cntN_nn _ _), sumR_le fun i hi => ?_⟩
  have h1 := cnt_one m m.f.length i x
  have h2 := (tw_nn hv hi).1
  have h3 := Int.mul_le_mul_of_nonneg_left (show cntN (pathL m (i : Int)) x ≤ 1 from h1) h2
  omega
end Go.Gv

set_option linter.unusedSimpArgs false
namespace Go.Gv
def lsum (f : Nat → Int) : List Nat → Int
  | [] => 0
  | x :: r => f x + lsum f r
theorem lsum_app (f : Nat → Int) : ∀ l l' : List Nat, lsum f (l ++ l') = lsum f l + lsum f l'
  | [], l' => by simp [lsum]
  | x :: r, l' => by rw [List.cons_append, lsum, lsum, lsum_app f r l']; omega
theorem lsum_perm {f : Nat → Int} {l l' : List Nat} (h : l.Perm l') : lsum f l = lsum f l' := by
  induction h with
  | nil => rfl
  | cons x _ ih => rw [lsum, lsum, ih]
  | swap x y l => simp only [lsum]; omega
  | trans _ _ h1 h2 => rw [h1, h2]
theorem lsum_range (f : Nat → Int) : ∀ n, lsum f (List.range n) = sumR f n
  | 0 => rfl
  | n + 1 => by rw [List.range_succ, lsum_app, lsum_range f n, sumR]; simp [lsum]
theorem lsum_zero {f : Nat → Int} : ∀ {l : List Nat}, (∀ y ∈ l, f y = 0) → lsum f l = 0
  | [], _ => rfl
  | x :: r, h => by rw [lsum, h x (List.mem_cons_self ..), lsum_zero (fun y hy => h y (List.mem_cons_of_mem _ hy))]; rfl
theorem lsum_nn {f : Nat → Int} : ∀ {l : List Nat}, (∀ y ∈ l, 0 ≤ f y) → 0 ≤ lsum f l
  | [], _ => Int.le_refl _
  | x :: r, h => by
    have h1 := h x (List.mem_cons_self ..)
    have h2 := lsum_nn (l := r) (fun y hy => h y (List.mem_cons_of_mem _ hy))
    rw [lsum]; omega
/-- What a face has after some faces have given theirs on. -/
def giv (m : Msh) (x y : Nat) : Int := if runF m y = (x : Int) then gatF m y else 0
def accP (m : Msh) (P : List Nat) (x : Nat) : Int := twF m x + lsum (giv m x) P
theorem accP_nil (m : Msh) (x : Nat) : accP m [] x = twF m x := by simp [accP, lsum]
theorem accP_snoc (m : Msh) (P : List Nat) (i x : Nat) : accP m (P ++ [i]) x = accP m P x + giv m x i := by
  unfold accP
  rw [lsum_app]
  simp only [lsum]
  omega
theorem accP_all {m : Msh} {P : List Nat} (hp : P.Perm (List.range m.f.length)) {x : Nat} (hx : x < m.f.length) : accP m P x = gatF m x := by
  unfold accP
  rw [lsum_perm hp, lsum_range, gat_eq m hx]
  rfl
/-- From the highest face to the lowest one. -/
structure Ord (m : Msh) (P : List Nat) : Prop where
  perm : P.Perm (List.range m.f.length)
  srt : P.Pairwise fun a b => sumF m b ≤ sumF m a
theorem Ord.len {m : Msh} {P : List Nat} (h : Ord m P) : P.length = m.f.length := by
  have := h.perm.length_eq
  simpa using this
theorem Ord.lt {m : Msh} {P : List Nat} (h : Ord m P) {p : Nat} (hp : p < P.length) : P[p] < m.f.length := by
  have := h.perm.mem_iff.1 (List.getElem_mem hp)
  simpa using this
theorem accP_at {m : Msh} {P : List Nat} (h : Ord m P) {p : Nat} (hp : p < P.length) : accP m (P.take p) P[p] = gatF m P[p] := by
  have hx := h.lt hp
  rw [← accP_all h.perm hx]
  unfold accP
  congr 1
  have e : lsum (giv m P[p]) P = lsum (giv m P[p]) (P.take p) + lsum (giv m P[p]) (P.drop p) := by rw [← lsum_app, List.take_append_drop]
  have e2 : lsum (giv m P[p]) (P.drop p) = 0 := by
    refine lsum_zero fun y hy => ?_
    obtain ⟨j, hj, rfl⟩ := List.getElem_of_mem hy
    rw [List.getElem_drop]
    simp only [List.length_drop] at hj
    have hs : sumF m P[p + j] ≤ sumF m P[p] := by
      rcases Nat.eq_zero_or_pos j with rfl | h0
      · exact Int.le_refl _
      · exact List.pairwise_iff_getElem.1 h.srt p (p + j) hp (by omega) (by omega)
    unfold giv
    rw [if_neg]
    intro e3
    rcases runF_bd m P[p + j] with e | e | ⟨e1, e2, e3'⟩
    · omega
    · omega
    · have : (runF m P[p + j]).toNat = P[p] := by omega
      rw [this] at e3'
      omega
  omega
theorem giv_nn {m : Msh} (hv : validM m = true) (x y : Nat) : 0 ≤ giv m x y := by
  unfold giv
  split
  · exact (gat_bd hv y).1
  · exact Int.le_refl _
theorem accP_bd {m : Msh} (hv : validM m = true) {P : List Nat} (h : Ord m P) {p : Nat} {x : Nat} (hx : x < m.f.length) : 0 ≤ accP m (P.take p) x ∧ accP m (P.take p) x ≤ totF m := by
  have h1 := lsum_nn (f := giv m x) (l := P.take p) fun y _ => giv_nn hv x y
  have h2 := lsum_nn (f := giv m x) (l := P.drop p) fun y _ => giv_nn hv x y
  have e : lsum (giv m x) P = lsum (giv m x) (P.take p) + lsum (giv m x) (P.drop p) := by rw [← lsum_app, List.take_append_drop]
  have e2 := accP_all h.perm hx
  have h3 := (gat_bd hv x).2
  have h4 := (tw_nn hv hx).1
  unfold accP at *
  omega
/-! ### Rows -/
def natR (l : List Nat) : List (List D) := l.map fun (i : Nat) => [D.int .i64 ((i : Nat) : Int)]
def acR (m : Msh) (P : List Nat) : List Int := (List.range m.f.length).map (accP m P)
theorem acR_len (m : Msh) (P : List Nat) : (acR m P).length = m.f.length := by simp [acR]
theorem acR_get (m : Msh) (P : List Nat) {x : Nat} (hx : x < m.f.length) : (acR m P)[x]? = some (accP m P x) := by simp [acR, hx]
theorem acR_stay {m : Msh} {P : List Nat} {i : Nat} (h : runF m i < 0) : acR m (P ++ [i]) = acR m P := by
  unfold acR
  refine List.map_congr_left fun x _ => ?_
  rw [accP_snoc]
  unfold giv
  rw [if_neg (by omega)]
  omega
theorem acR_give {m : Msh} {P : List Nat} {i t : Nat} (h : runF m i = (t : Int)) : acR m (P ++ [i]) = (acR m P).set t (accP m P t + gatF m i) := by
  apply List.ext_getElem?
  intro x
  rw [List.getElem?_set]
  unfold acR
  simp only [List.getElem?_map, List.length_map, List.length_range]
  by_cases hx : x < m.f.length
  · by_cases ht : t = x
    · subst ht
      simp [hx, accP_snoc, giv, h]
    · simp [hx, ht, accP_snoc, giv, h]
      omega
  · by_cases ht : t = x
    · subst ht; simp [hx]
    · simp [hx, ht]
theorem acR_nil (m : Msh) : acR m [] = (List.range m.f.length).map (twF m) := by
  unfold acR
  exact List.map_congr_left fun x _ => accP_nil m x
def gatL (m : Msh) : List Int := (List.range m.f.length).map (gatF m)
theorem acR_all {m : Msh} {P : List Nat} (hp : P.Perm (List.range m.f.length)) : acR m P = gatL m := by
  unfold acR gatL
  exact List.map_congr_left fun x hx => accP_all hp (List.mem_range.1 hx)
/-! ### Path by path -/
def refA (m : Msh) (i : Nat) (l : List Int) (x : Nat) : Int := sumR (fun j => twF m j * cntN (pathL m (j : Int)) x) i + twF m i * cntN l x
def refR (m : Msh) (i : Nat) (l : List Int) : List Int := (List.range m.f.length).map (refA m i l)
end Go.Gv

namespace Go.Gv
open Go.Sort Go.Proofs Go.Shelf
theorem Bel.grown {w w' : World} (h : Bel w w') : ∃ q os, w' = grow (w.drewN q) os := by
  refine ⟨w'.drawn - w.drawn, w'.heap.extract w.heap.size w'.heap.size, ?_⟩
  have hh : w'.heap = w.heap ++ w'.heap.extract w.heap.size w'.heap.size := by
    apply Array.ext
    · have := h.size
      simp only [Array.size_append, Array.size_extract]
      omega
    · intro i h1 h2
      by_cases hi : i < w.heap.size
      · rw [Array.getElem_append_left hi]
        have := h.block i hi
        rw [Array.getElem?_eq_getElem h1, Array.getElem?_eq_getElem hi] at this
        exact Option.some.inj this
      · rw [Array.getElem_append_right (by omega), Array.getElem_extract]
        congr 1
        omega
  have hd := h.drawn
  obtain ⟨h1, h2, h3, h4, h5, h6⟩ := h
  cases w
  cases w'
  simp only [grow, World.drewN] at *
  subst h1 h2 h3
  congr 1
  omega
theorem Bel.sorted {α : Type} [Inhabited α] {enc : α → Value} {w : World} {blk off n : Nat} {d : Array α} {os : Array Obj} {p : Addr} {v : Value} (hp : p.block ≠ blk) (h : w.cell? p = some v) : (sortWorld enc w blk off n d os).cell? p = some v := by
  have hb : p.block < w.heap.size := by
    unfold World.cell? at h
    cases e : w.heap[p.block]? with
    | none => rw [e] at h; cases h
    | some _ => exact (Array.getElem?_eq_some_iff.1 e).1
  have e : (sortWorld enc w blk off n d os).heap[p.block]? = w.heap[p.block]? := by
    simp only [sortWorld, grow, putRow, mapBlock, Sort.ahead]
    rw [Array.getElem?_append_left (by simpa using hb), Array.getElem?_modify, if_neg (Ne.symm hp)]
  unfold World.cell? at h ⊢
  rw [e]
  exact h
section
variable {P : Program} {F : Fid} {α : Type} [Inhabited α]
theorem runsC_sortFunc {ρ : Ren} (Ly : SlLaysF.n6 P ρ) (enc : α → Value) (encD : α → D) (h1 : OneCell enc) (hflat : ∀ M x u, RepC F M (encD x) u → u = enc x) (hrep : ∀ M x, RepC F M (encD x) (enc x)) (cf : α → α → Int) (hO : SWO (ltOf cf)) {g cg : Nat} (hg : ∀ f, F g = some f → f = ρ.f 6) {cs : List D}
    (hn : ∀ f, F cg = some f → named P f = true) (hcl : ∀ x y, runsC P F cg (encD x :: encD y :: cs) (.int .i64 (cf x y)) []) (d : Array α) (hz : d.size < 2 ^ 62) :
    runsC P F g [.own 1 (rowsOf encD d), .fn cg cs] .any [.own 1 (rowsOf encD (pdq (ltOf cf) d 0 d.size (Lib.bitLen d.size) true true)), .nilp] := by
  refine ⟨trivial, fun f hf => ⟨rfl, ?_⟩⟩
  obtain rfl := hg f hf
  have hp := pdq_sorts (ltOf cf) hO d 0 d.size (Lib.bitLen d.size) true true (Nat.zero_le _) (Nat.le_refl _) (Or.inl rfl)
  have hsz : (pdq (ltOf cf) d 0 d.size (Lib.bitLen d.size) true true).size = d.size := hp.1.1
  refine runsS_of_sort enc encD hflat hrep d _ hsz _ (fun h M w vs A hh r => ?_) (fun M w vs blk off cap hh hM r hH hb => ?_)
  · simp only [RepL, RepC] at r
    obtain ⟨fv, vs', rfl, ⟨fi, us, hfi, rfl, hus⟩, rfl⟩ := r
    refine (AnyF.slices_SortFunc_none { Ly with } A 0 _ w).mono ?_
    rintro e w' ⟨rfl, rfl⟩
    exact ⟨rfl, 0, #[], by simp⟩
  · simp only [RepL, RepC] at r
    obtain ⟨fv, vs', rfl, ⟨fi, us, hfi, rfl, hus⟩, rfl⟩ := r
    have hcmp : CmpLays1 P fi us.toArray enc cf blk off d.size w := by
      intro m os dk hdk x y
      have hr := (hcl x y).2 fi hfi M (sortWorld enc w blk off m dk os) (enc x :: enc y :: us) (fun p v hpv => Bel.sorted (fun e => by rw [hM p e] at hpv; cases hpv) (hh p v hpv)) (by
        simp only [RepL]
        exact ⟨_, _, rfl, hrep _ _, _, _, rfl, hrep _ _, hus⟩)
      have e : #[enc x, enc y] ++ us.toArray = (enc x :: enc y :: us).toArray := by simp
      rw [e]
      refine hr.mono ?_
      rintro e w' ⟨v, M', rfl, hbel, _, _, _, hv⟩
      simp only [RepC] at hv
      subst hv
      exact ⟨rfl, hbel.grown⟩
    exact Any.slices_SortFunc_eq Ly enc h1 cf hO fi us.toArray blk off cap d w (callFunc_named (hn fi hfi)) hcmp hH hb (by omega)
end
end Go.Gv

set_option linter.unusedSimpArgs false
namespace Go.Gv
open Go.Sort Go.Proofs Go.Shelf
section
variable {m : Msh}
def cfG (m : Msh) {N : Nat} (a b : Fin N) : Int := sumF m b.1 - sumF m a.1
theorem cfG_swo (m : Msh) (N : Nat) : SWO (ltOf (cfG m (N := N))) where
  irrefl x := by simp [ltOf, cfG]
  trans x y z h1 h2 := by
    have g1 : cfG m x y < 0 := of_decide_eq_true h1
    have g2 : cfG m y z < 0 := of_decide_eq_true h2
    refine decide_eq_true ?_
    unfold cfG at *
    omega
  ntrans x y z h1 h2 := by
    have g1 : ¬ cfG m x y < 0 := of_decide_eq_false h1
    have g2 : ¬ cfG m y z < 0 := of_decide_eq_false h2
    refine decide_eq_false ?_
    unfold cfG at *
    omega
def dG (N : Nat) : Array (Fin N) := (List.finRange N).toArray
theorem dG_size (N : Nat) : (dG N).size = N := by simp [dG]
def oG (m : Msh) (N : Nat) [Inhabited (Fin N)] : List Nat := (pdq (ltOf (cfG m)) (dG N) 0 (dG N).size (Lib.bitLen (dG N).size) true true).toList.map fun i => i.1
theorem oG_ord (m : Msh) [Inhabited (Fin m.f.length)] : Ord m (oG m m.f.length) := by
  have h := pdq_sorts (ltOf (cfG m)) (cfG_swo m m.f.length) (dG m.f.length) 0 (dG m.f.length).size (Lib.bitLen (dG m.f.length).size) true true (Nat.zero_le _) (Nat.le_refl _) (Or.inl rfl)
  obtain ⟨⟨hs, _, hp⟩, hsrt⟩ := h
  unfold oG
  generalize hP : pdq (ltOf (cfG m)) (dG m.f.length) 0 (dG m.f.length).size (Lib.bitLen (dG m.f.length).size) true true = d' at *
  have e1 : d'.extract 0 (dG m.f.length).size = d' := by rw [← hs]; exact Array.extract_size
  have e2 : (dG m.f.length).extract 0 (dG m.f.length).size = dG m.f.length := Array.extract_size
  rw [e1, e2] at hp
  refine ⟨?_, ?_⟩
  · have h1 := hp.map (fun i : Fin m.f.length => i.1)
    have h2 : (dG m.f.length).toList.map (fun i : Fin m.f.length => i.1) = List.range m.f.length := by
      unfold dG
      exact List.ext_getElem (by simp) (by intro i h1 h2; simp)
    rw [h2] at h1
    exact h1
  · rw [List.pairwise_map, List.pairwise_iff_getElem]
    intro i j hi hj hij
    have hj' : j < d'.size := by simpa using hj
    have hi' : i < d'.size := by simpa using hi
    have h1 := hsrt i j (Nat.zero_le _) hij (by rw [← hs]; exact hj')
    rw [getElem!_pos d' j hj', getElem!_pos d' i hi'] at h1
    have g1 : ¬ cfG m d'[j] d'[i] < 0 := of_decide_eq_false h1
    unfold cfG at g1
    simp only [Array.getElem_toList]
    omega
end
end Go.Gv

set_option linter.unusedSimpArgs false
namespace Go.Gv
open Go.Sort Go.Proofs Go.Shelf
section
variable {P : Program} {F : Fid}
theorem runsC_order {ρ : Ren} (Ly : SlLaysF.n6 P ρ) (m : Msh) (h0 : 0 < m.f.length) (hl : m.f.length < 2 ^ 62) {g cg : Nat} (hg : ∀ f, F g = some f → f = ρ.f 6) {cs : List D}
    (hn : ∀ f, F cg = some f → named P f = true) (hcl : ∀ a b : Nat, a < m.f.length → b < m.f.length → runsC P F cg (.int .i64 a :: .int .i64 b :: cs) (.int .i64 (sumF m b - sumF m a)) []) :
    ∃ Q, Ord m Q ∧ runsC P F g [.own 1 (natR (List.range m.f.length)), .fn cg cs] .any [.own 1 (natR Q), .nilp] := by
  haveI : Inhabited (Fin m.f.length) := ⟨⟨0, h0⟩⟩
  refine ⟨oG m m.f.length, oG_ord m, ?_⟩
  have k := runsC_sortFunc (α := Fin m.f.length) Ly (fun i => .int .i64 (i.1 : Int)) (fun i => D.int .i64 (i.1 : Int)) (fun _ => rfl) (fun M x u h => by simpa [RepC] using h) (fun M x => by simp [RepC]) (cfG m) (cfG_swo m _) hg hn (fun x y => hcl x.1 y.1 x.2 y.2) (dG m.f.length) (by rw [dG_size]; exact hl)
  have e1 : rowsOf (fun i : Fin m.f.length => D.int .i64 (i.1 : Int)) (dG m.f.length) = natR (List.range m.f.length) := by
    unfold rowsOf natR dG
    exact List.ext_getElem (by simp) (by intro i h1 h2; simp)
  have e2 : rowsOf (fun i : Fin m.f.length => D.int .i64 (i.1 : Int)) (pdq (ltOf (cfG m)) (dG m.f.length) 0 (dG m.f.length).size (Lib.bitLen (dG m.f.length).size) true true) = natR (oG m m.f.length) := by
    unfold rowsOf natR oG
    rw [List.map_map]
    rfl
  rw [e1, e2] at k
  exact k
end
end Go.Gv

set_option linter.unusedSimpArgs false
namespace Go.Gv
open Go.Lib
variable {C : CC} (hC : Closed prog C)
include hC
def nmD (x : Nat) : D := .agg [.int .u64 ((x / 18446744073709551616 : Nat) : Int), .int .u64 ((x % 18446744073709551616 : Nat) : Int), .bool false]
end Go.Gv

set_option linter.unusedSimpArgs false
namespace Go.Gv
variable {C : CC} (hC : Closed prog C)
include hC
end Go.Gv

set_option linter.unusedSimpArgs false
namespace Go.Gv
/-- The side. -/
def sidK (m : Msh) (a b : Int) : Int := if sideF m a b < 0 then 0 else idxD (fun j => decide (crn (fce m (sideF m a b).toNat) j = a) && decide (crn (fce m (sideF m a b).toNat) (j + 1) = b)) (List.range 3)
def acK (m : Msh) (i k : Nat) : Int := sidK m (crn (fce m i) (k + 1)) (crn (fce m i) k)
def nbT (m : Msh) (i : Nat) : List (List D) := (List.range i).map fun j => [.int .i64 (nbF m j 0), .int .i64 (nbF m j 1), .int .i64 (nbF m j 2)]
@[simp] theorem nbT_len (m : Msh) (i : Nat) : (nbT m i).length = i := by simp [nbT]
@[simp] theorem nbT_take (m : Msh) (i : Nat) : List.take i (nbT m i) = nbT m i := List.take_of_length_le (by simp)
@[simp] theorem nbT_cv (m : Msh) (i : Nat) : List.map (fun e => List.map cellV e) (nbT m i) = nbT m i := by simp [nbT]
variable {C : CC} (hC : Closed prog C)
include hC
end Go.Gv

set_option linter.unusedSimpArgs false
namespace Go.Gv
/-- Whether a border is among the first k sides. -/
def bdB (m : Msh) (i k : Nat) : Bool := (List.range k).any fun c => decide (nbF m i c < 0)
def ini (m : Msh) (i k : Nat) : Int := if bdB m i k then -1 else -2
/-- What the reference's second loop has found. -/
def qup (m : Msh) (i k : Nat) : Int := if upF m i k < 0 then ini m i 3 else upF m i k
variable {C : CC} (hC : Closed prog C)
include hC
end Go.Gv

set_option linter.unusedSimpArgs false
namespace Go.Gv
def exM (z : Int) : Msh := ⟨false, [⟨0, 0, 0⟩, ⟨30, 0, z⟩, ⟨30, 30, 9⟩, ⟨0, 30, 0⟩], false, [⟨0, 1, 2, 0⟩, ⟨0, 2, 3, 0⟩]⟩
variable {C : CC} (hC : Closed prog C)
include hC
theorem eqI_c (b b' : Bool) (xs ys : List Int) (hx : xs.length < 2 ^ 62) (hy : ys.length < 2 ^ 62) : C 19 [slx b (xs.map fun n => [.int .i64 n]), slx b' (ys.map fun n => [.int .i64 n])] (.bool (decide (xs = ys))) [] := by
  refine start hC (nf := N19_slices_Equal__int_int) rfl rfl ?_
  simp [N19_slices_Equal__int_int]
  refine brB_of (fun h => ?_) (fun h => ?_) <;> simp at h <;> simp [h]
  · rintro rfl; exact h rfl
  have h' : xs.length = ys.length := by omega
  refine loop_of Nat (fun i => [(0, slx b (xs.map fun n => [.int .i64 n])), (1, slx b' (ys.map fun n => [.int .i64 n])), (12, .int .i64 ys.length), (13, .int .i64 i)])
    (fun i => i ≤ ys.length ∧ ∀ k, k < i → xs[k]? = ys[k]?) (fun i => ys.length - i) 0 (by simp) (by simp) ?_
  rintro i ⟨hi, hok⟩
  simp
  refine brB_of (fun h1 => ?_) (fun h1 => ?_) <;> simp at h1 <;> simp [h1]
  · have hw : IntKind.wrap .i64 ((i : Int) + 1) = ((i + 1 : Nat) : Int) := wrap_i64 (by omega) (by omega)
    have hx1 : i < xs.length := by omega
    simp [h1, hx1]
    refine ⟨indW_of (by decide +kernel), ?_⟩
    refine brB_of (fun h2 => ?_) (fun h2 => ?_) <;> simp [h1, hx1] at h2 <;> simp [h1, hx1, h2, hw]
    · rintro rfl
      exact h2 rfl
    · refine ⟨i + 1, ⟨by omega, fun k hk => ?_⟩, by omega, rfl⟩
      rcases Nat.lt_succ_iff_lt_or_eq.1 hk with h5 | rfl
      · exact hok k h5
      · rw [List.getElem?_eq_getElem h1, List.getElem?_eq_getElem hx1, h2]
  · refine List.ext_getElem? fun k => ?_
    rcases Nat.lt_or_ge k i with h2 | h2
    · exact hok k h2
    · rw [List.getElem?_eq_none (by omega), List.getElem?_eq_none (by omega)]
theorem example_c (z : Int) : C 252 [.int .i64 z] (.agg (mshC (exM z))) [] := by
  refine start hC (nf := N252_law10_example) rfl rfl ?_
  simp [N252_law10_example, exM, mshC_eq, sptC_eq, fceC_eq, List.replicate]
theorem ready_c (m : Msh) : C 219 [.agg (mshC m)] (.bool (decide (m.s.length ≤ 80) && decide (1 ≤ m.f.length) && decide (m.f.length ≤ 80) && validM m)) [] := by
  refine start hC (nf := N219_law10_ready) rfl rfl ?_
  simp [N219_law10_ready, mshC_eq]
  refine brB_of (fun h1 => ?_) (fun h1 => ?_) <;> simp at h1 <;> simp [h1]
  · refine brB_of (fun h2 => ?_) (fun h2 => ?_) <;> simp at h2 <;> simp [h2]
    · refine brB_of (fun h3 => ?_) (fun h3 => ?_) <;> simp at h3 <;> simp [h3]
      · have k := rValid_c hC m (fun _ => by omega)
        simp only [mshC_eq] at k
        refine callW_of k (.inl rfl) ?_
        simp
        exact fun _ => ⟨⟨by omega, by omega⟩, by omega⟩
      · intro a b c; omega
    · intro a b c; omega
  · intro a b c; omega
end Go.Gv

set_option linter.unusedSimpArgs false
namespace Go.Gv
theorem ex_v3 : validM (exM 3) = true := by decide +kernel
theorem ex_v0 : validM (exM 0) = true := by decide +kernel
theorem ex_s3 : sumL (exM 3) = [12, 9] := by decide +kernel
theorem ex_f0 : flowL (exM 0) = [-1, -1] := by decide +kernel
theorem ex_f3 : flowL (exM 3) = [1, -1] := by decide +kernel
theorem ex_p3 : pathL (exM 3) 0 = [0, 1] := by decide +kernel
variable {C : CC} (hC : Closed prog C)
include hC
set_option maxHeartbeats 2000000 in
theorem awake10_c (dec : Nat → List UInt8) (hI : ∀ n : Nat, n < 100 → C 127 [.int .i64 n] (.str (dec n)) []) : C 211 [] (.bool true) [] := by
  have hz : ∀ z, smallM (exM z) = true → (exM z).s.length ≤ 100 ∧ (exM z).f.length ≤ 100 := fun z _ => by simp [exM]
  have e3 := example_c hC 3
  have e0 := example_c hC 0
  have k1 := Sums_c hC dec hI (exM 3) (hz 3)
  have k2 := Flow_c hC dec hI (exM 0) (hz 0)
  have k3 := Flow_c hC dec hI (exM 3) (hz 3)
  have k4 := Path_c hC dec hI (exM 3) (hz 3) 0
  rw [ex_v3, ex_s3] at k1
  rw [ex_v0, ex_f0] at k2
  rw [ex_v3, ex_f3] at k3
  rw [ex_v3, ex_p3, show inR1 (exM 3).f.length 0 = true from rfl] at k4
  have q1 := eqI_c hC false false [12, 9] [12, 9] (by simp) (by simp)
  have q2 := eqI_c hC false false [-1, -1] [-1, -1] (by simp) (by simp)
  have q3 := eqI_c hC false false [1, -1] [1, -1] (by simp) (by simp)
  have q4 := eqI_c hC false false [0, 1] [0, 1] (by simp) (by simp)
  simp [inR_eq] at k1 k2 k3 k4 q1 q2 q3 q4
  obtain ⟨A3, hA3⟩ : ∃ A, A = mshC (exM 3) := ⟨_, rfl⟩
  obtain ⟨A0, hA0⟩ : ∃ A, A = mshC (exM 0) := ⟨_, rfl⟩
  have c3 : ∃ a b : Bool × List (List D), A3 = [slx a.1 a.2, slx b.1 b.2] := ⟨(false, _), (false, _), by rw [hA3, mshC_eq]; rfl⟩
  have c0 : ∃ a b : Bool × List (List D), A0 = [slx a.1 a.2, slx b.1 b.2] := ⟨(false, _), (false, _), by rw [hA0, mshC_eq]; rfl⟩
  rw [← hA3] at e3 k1 k3 k4
  rw [← hA0] at e0 k2
  obtain ⟨a, b, rfl⟩ := c3
  obtain ⟨a', b', rfl⟩ := c0
  refine start hC (nf := N211_law10_awake) rfl rfl ?_
  simp [N211_law10_awake]
  refine callW_of e3 (.inr rfl) ?_
  simp
  refine callW_of k1 (.inr rfl) ?_
  simp
  refine callW_of e0 (.inr rfl) ?_
  simp
  refine callW_of k2 (.inr rfl) ?_
  simp
  refine callW_of e3 (.inr rfl) ?_
  simp
  refine callW_of k3 (.inr rfl) ?_
  simp
  refine callW_of e3 (.inr rfl) ?_
  simp
  refine callW_of k4 (.inr rfl) ?_
  simp
  refine callW_of q1 (.inl rfl) ?_
  simp
  refine callW_of q2 (.inl rfl) ?_
  simp
  refine callW_of q3 (.inl rfl) ?_
  simp
  refine callW_of q4 (.inl rfl) ?_
  simp
end Go.Gv

set_option linter.unusedSimpArgs false
namespace Go.Gv
variable {C : CC} (hC : Closed prog C)
include hC
end Go.Gv

set_option linter.unusedSimpArgs false
namespace Go.Gv
def qfl (m : Msh) (i : Nat) : List Int := (List.range i).map fun j => runF m j
@[simp] theorem qfl_take (m : Msh) (i : Nat) : List.take i (inR (qfl m i)) = inR (qfl m i) := List.take_of_length_le (by simp [qfl])
@[simp] theorem qfl_len (m : Msh) (i : Nat) : (qfl m i).length = i := by simp [qfl]
variable {C : CC} (hC : Closed prog C)
include hC
end Go.Gv

set_option linter.unusedSimpArgs false
namespace Go.Gv
def largeM (m : Msh) : Bool := (decide ((80 : Int) < (m.s.length : Int)) && decide ((m.s.length : Int) ≤ 2000)) || (decide ((80 : Int) < (m.f.length : Int)) && decide ((m.f.length : Int) ≤ 4000)) || decide ((2010 : Int) < (m.s.length : Int)) || decide ((4010 : Int) < (m.f.length : Int))
variable {C : CC} (hC : Closed prog C)
include hC
end Go.Gv

set_option linter.unusedSimpArgs false
set_option maxRecDepth 4000
namespace Go.Gv
def mvS (x y z : Int) (s : Spt) : Spt := ⟨s.x + x, s.y + y, s.z + z⟩
def mvM (m : Msh) (x y z : Int) : Msh := ⟨false, m.s.map (mvS x y z), false, m.f⟩
def offB (n : Int) : Bool := decide (n < -67108864) || decide (67108864 < n)
def mvE (m : Msh) (x y z : Int) : Int := if validM m = true then (if ([x, y, z].any offB) = true then 5 else if (m.s.all fun s => rightS (mvS x y z s)) = true then 0 else 5) else 1
def mvRw (x y z : Int) (ss : List Spt) (i : Nat) : List Spt := (ss.take i).map (mvS x y z) ++ ss.drop i
def mvR (x y z : Int) (ss : List Spt) (i : Nat) : List (List D) := (mvRw x y z ss i).map sptC
theorem mvR_len (x y z : Int) (ss : List Spt) (i : Nat) : (mvR x y z ss i).length = ss.length := by simp [mvR, mvRw]; omega
theorem mvR_zero (x y z : Int) (ss : List Spt) : mvR x y z ss 0 = ss.map sptC := by simp [mvR, mvRw]
theorem mvR_end (x y z : Int) (ss : List Spt) : mvR x y z ss ss.length = (ss.map (mvS x y z)).map sptC := by simp [mvR, mvRw]
theorem mvR_get (x y z : Int) {ss : List Spt} {i : Nat} (h : i < ss.length) : (mvR x y z ss i)[i]? = some (sptC ss[i]) := by
  unfold mvR mvRw
  rw [List.getElem?_map, List.getElem?_append_right (by simp; omega)]
  simp [Nat.min_eq_left (Nat.le_of_lt h), h]
theorem mvRw_set (x y z : Int) {ss : List Spt} {i : Nat} (h : i < ss.length) : (mvRw x y z ss i).set i (mvS x y z ss[i]) = mvRw x y z ss (i + 1) := by
  unfold mvRw
  rw [List.set_append_right _ _ (by simp; omega)]
  have e1 : i - ((ss.take i).map (mvS x y z)).length = 0 := by simp; omega
  rw [e1, List.drop_eq_getElem_cons h, List.set_cons_zero, List.take_succ_eq_append_getElem h, List.map_append, List.append_assoc]
  rfl
theorem mvR_set (x y z : Int) {ss : List Spt} {i : Nat} (h : i < ss.length) : (mvR x y z ss i).set i (sptC (mvS x y z ss[i])) = mvR x y z ss (i + 1) := by
  unfold mvR
  rw [← List.map_set, mvRw_set x y z h]
theorem sptM_V (l : List Spt) : (l.map sptC).map (fun e => e.map cellV) = l.map sptC := by
  rw [List.map_map]
  exact List.map_congr_left fun s _ => by simp [sptC]
theorem fceM_V (l : List Fce) : (l.map fceC).map (fun e => e.map cellV) = l.map fceC := by
  rw [List.map_map]
  exact List.map_congr_left fun s _ => by simp [fceC]
theorem sptM_isC (l : List Spt) : ∀ e ∈ l.map sptC, e.length = 3 ∧ ∀ c ∈ e, isC1 c = true := by
  intro e he
  obtain ⟨s, _, rfl⟩ := List.mem_map.1 he
  simp [sptC]
theorem sptM_isF (l : List Spt) : ∀ e ∈ l.map sptC, ∀ c ∈ e, isF1 c = true := by
  intro e he c hc
  obtain ⟨s, _, rfl⟩ := List.mem_map.1 he
  simp [sptC] at hc
  rcases hc with rfl | rfl | rfl <;> rfl
theorem fceM_isC (l : List Fce) : ∀ e ∈ l.map fceC, e.length = 4 ∧ ∀ c ∈ e, isC1 c = true := by
  intro e he
  obtain ⟨s, _, rfl⟩ := List.mem_map.1 he
  simp [fceC]
theorem fceM_isF (l : List Fce) : ∀ e ∈ l.map fceC, ∀ c ∈ e, isF1 c = true := by
  intro e he c hc
  obtain ⟨s, _, rfl⟩ := List.mem_map.1 he
  simp [fceC] at hc
  rcases hc with rfl | rfl | rfl | rfl <;> rfl
variable {C : CC} (hC : Closed prog C)
include hC
theorem cloneSp_c (l : List Spt) (h2 : l.length ≤ 2000) (b : Bool) : C 403 [slx b (l.map sptC)] .any [.own 3 (l.map sptC)] := by
  have hb : l.length * 24 ≤ 140737488355328 := by omega
  have hu := sptM_isF l
  have hc := sptM_isC l
  have hRl : (l.map sptC).length = l.length := List.length_map _
  obtain ⟨R, hR⟩ : ∃ R, R = l.map sptC := ⟨_, rfl⟩
  rw [← hR] at hu hc hRl ⊢
  refine startF hC (nf := N403_slices_Clone__api_Spot_api_Spot) rfl rfl ?_
  cases hbv : (b && decide (l = []))
  · have e : slx b R = .sl R := by
      unfold slx
      cases b with
      | false => simp
      | true =>
        simp at hbv
        cases l with
        | nil => exact absurd rfl hbv
        | cons s r => rw [hR]; simp
    rw [e]
    simp [N403_slices_Clone__api_Spot_api_Spot, hRl, hb]
    exact ⟨fun _ => ⟨hc, hu⟩, fun e => ⟨⟨hu, by rw [hR, e]; rfl⟩, hc, hu⟩⟩
  · simp only [Bool.and_eq_true, decide_eq_true_eq] at hbv
    obtain ⟨rfl, rfl⟩ := hbv
    have e : slx true R = .nils := by rw [hR]; rfl
    have e2 : R = [] := hR
    rw [e, e2]
    simp [N403_slices_Clone__api_Spot_api_Spot]
theorem cloneFc_c (l : List Fce) (h2 : l.length ≤ 4000) (b : Bool) : C 404 [slx b (l.map fceC)] .any [.own 4 (l.map fceC)] := by
  have hb : l.length * 32 ≤ 140737488355328 := by omega
  have hu := fceM_isF l
  have hc := fceM_isC l
  have hRl : (l.map fceC).length = l.length := List.length_map _
  obtain ⟨R, hR⟩ : ∃ R, R = l.map fceC := ⟨_, rfl⟩
  rw [← hR] at hu hc hRl ⊢
  refine startF hC (nf := N404_slices_Clone__api_Face_api_Face) rfl rfl ?_
  cases hbv : (b && decide (l = []))
  · have e : slx b R = .sl R := by
      unfold slx
      cases b with
      | false => simp
      | true =>
        simp at hbv
        cases l with
        | nil => exact absurd rfl hbv
        | cons s r => rw [hR]; simp
    rw [e]
    simp [N404_slices_Clone__api_Face_api_Face, hRl, hb]
    exact ⟨fun _ => ⟨hc, hu⟩, fun e => ⟨⟨hu, by rw [hR, e]; rfl⟩, hc, hu⟩⟩
  · simp only [Bool.and_eq_true, decide_eq_true_eq] at hbv
    obtain ⟨rfl, rfl⟩ := hbv
    have e : slx true R = .nils := by rw [hR]; rfl
    have e2 : R = [] := hR
    rw [e, e2]
    simp [N404_slices_Clone__api_Face_api_Face]
theorem copied_c (m : Msh) (h1 : m.s.length ≤ 2000) (h2 : m.f.length ≤ 4000) : C 401 [.agg (mshC m)] (.agg [.own 3 (m.s.map sptC), .own 4 (m.f.map fceC)]) [.nils] := by
  have k1 := cloneSp_c hC m.s h1 m.sn
  have k2 := cloneFc_c hC m.f h2 m.fn
  refine startA hC (nf := N401_mesh_copied) rfl rfl rfl ?_
  simp [N401_mesh_copied, mshC_eq]
  refine callFW_of k1 ?_
  simp
  refine callFW_of k2 ?_
  simp
  exact ⟨fun a ha => (sptM_isC m.s _ (List.mem_map_of_mem ha)).2, fun a ha => (fceM_isC m.f _ (List.mem_map_of_mem ha)).2, indW_of (by decide +kernel)⟩
theorem move1_c (n : Int) : C 400 [.int .i64 n] (.bool (offB n)) [] := by
  refine start hC (nf := N400_mesh_Move_1) rfl rfl ?_
  unfold offB
  simp [N400_mesh_Move_1]
  by_cases h : n < -67108864
  · simp [h]
  · simp [h]
set_option maxHeartbeats 2000000 in
theorem Move_c (dec : Nat → List UInt8) (hI : ∀ n : Nat, n < 100 → C 127 [.int .i64 n] (.str (dec n)) []) (m : Msh) (hz : smallM m = true → m.s.length ≤ 100 ∧ m.f.length ≤ 100) (x y z : Int) : C 399 [.agg (mshC m), .int .i64 x, .int .i64 y, .int .i64 z] (.tup [if mvE m x y z = 0 then .agg (mshC (mvM m x y z)) else .agg [.nils, .nils], .int .i64 (mvE m x y z)]) [] := by
  have k1 := mValid_c hC dec hI m hz
  have k2 := hasInt_c hC (b := false) (xs := [x, y, z]) (g := 400) (cs := []) offB (by simp) (fun n _ => move1_c hC n)
  simp only [mshC_eq] at k1
  unfold mvE
  by_cases hv : validM m = true
  rotate_left
  · rw [Bool.not_eq_true] at hv
    rw [hv] at k1
    simp only [hv, Bool.false_eq_true, if_false]
    refine start hC (nf := N399_mesh_Move) rfl rfl ?_
    simp [N399_mesh_Move, mshC_eq]
    refine callW_of k1 (.inl rfl) ?_
    simp
  rw [hv] at k1
  simp only [hv, if_true]
  cases ho : ([x, y, z].any offB)
  rotate_left
  · rw [ho] at k2
    simp at k2
    simp only [if_true]
    refine start hC (nf := N399_mesh_Move) rfl rfl ?_
    simp [N399_mesh_Move, mshC_eq]
    refine callW_of k1 (.inl rfl) ?_
    simp
    refine callW_of k2 (.inl rfl) ?_
    simp
  rw [ho] at k2
  simp at k2
  simp only [Bool.false_eq_true, if_false]
  have hb := ho
  simp only [List.any_cons, List.any_nil, offB, Bool.or_false, Bool.or_eq_false_iff, decide_eq_false_iff_not] at hb
  have hsl := valid_small hv
  have k3 := copied_c hC m hsl.1 hsl.2
  simp only [mshC_eq] at k3
  obtain ⟨E, hE⟩ : ∃ E : Int, E = if (m.s.all fun s => rightS (mvS x y z s)) = true then 0 else 5 := ⟨_, rfl⟩
  rw [← hE]
  have hgood : (∀ (j : Nat) (h : j < m.s.length), rightS (mvS x y z m.s[j]) = true) → E = 0 := fun h => by
    rw [hE, if_pos]
    rw [List.all_eq_true]
    intro s hs
    obtain ⟨j, hj, rfl⟩ := List.getElem_of_mem hs
    exact h j hj
  have hbad : ∀ (j : Nat) (h : j < m.s.length), rightS (mvS x y z m.s[j]) = false → E = 5 := fun j h hr => by
    rw [hE, if_neg]
    intro h2
    have := List.all_eq_true.1 h2 _ (List.getElem_mem h)
    rw [hr] at this
    cases this
  clear hE
  refine start hC (nf := N399_mesh_Move) rfl rfl ?_
  simp [N399_mesh_Move, mshC_eq]
  refine callW_of k1 (.inl rfl) ?_
  simp
  refine callW_of k2 (.inl rfl) ?_
  simp
  refine callAW_of k3 rfl ?_
  simp
  refine ⟨fun a ha => (sptM_isC m.s _ (List.mem_map_of_mem ha)).2, fun a ha => (fceM_isC m.f _ (List.mem_map_of_mem ha)).2, ?_⟩
  refine loop_of Nat (fun i => [(1, .int .i64 x), (2, .int .i64 y), (3, .int .i64 z), (8, .adr (.r 10128) 0 0), (10, .adr (.r 10160) 0 0), (27, .int .i64 m.s.length), (28, .int .i64 i), (10128, .blk 2 [[.own 3 [], .own 4 []]]), (10160, .blk 2 [[.own 3 (mvR x y z m.s i), .own 4 (m.f.map fceC)]])])
    (fun i => i ≤ m.s.length ∧ ∀ (j : Nat) (h : j < m.s.length), j < i → rightS (mvS x y z m.s[j]) = true) (fun i => m.s.length - i) 0 ⟨by omega, fun j h hj => by omega⟩ (by simp [mvR_zero]) ?_
  rintro i ⟨hi, hall⟩
  simp
  refine brB_of (fun h => ?_) (fun h => ?_) <;> simp at h
  · have hw : IntKind.wrap .i64 ((i : Int) + 1) = ((i + 1 : Nat) : Int) := wrap_i64 (by omega) (by omega)
    have hg := mvR_get x y z h
    have hln := mvR_len x y z m.s i
    have hset := mvR_set x y z h
    have hrs := valid_s hv h
    have esp : m.s[i] = spt m i := (getElem!_pos m.s i h).symm
    have hgr : rightS (mvS x y z m.s[i]) = true → ∀ (j : Nat) (h : j < m.s.length), j < i + 1 → rightS (mvS x y z m.s[j]) = true := fun h1 j hj hji => by
      rcases Nat.lt_succ_iff_lt_or_eq.1 hji with h2 | rfl
      · exact hall j hj h2
      · exact h1
    have hbd := hbad i h
    rw [esp] at hg hset hgr hbd
    have hrb : (-16777216 ≤ (spt m i).x ∧ (spt m i).x ≤ 16777216) ∧ (-16777216 ≤ (spt m i).y ∧ (spt m i).y ≤ 16777216) ∧ -4194304 ≤ (spt m i).z ∧ (spt m i).z ≤ 4194304 := by
      simp only [rightS, Bool.and_eq_true, decide_eq_true_eq] at hrs
      omega
    have k4 := mright_c hC (mvS x y z (spt m i))
    generalize spt m i = s at *
    have w1 : IntKind.wrap .i64 (s.x + x) = s.x + x := wrap_i64 rfl (by omega)
    have w2 : IntKind.wrap .i64 (s.y + y) = s.y + y := wrap_i64 rfl (by omega)
    have w3 : IntKind.wrap .i64 (s.z + z) = s.z + z := wrap_i64 rfl (by omega)
    generalize hRs : rightS (mvS x y z s) = ok at *
    simp only [sptC, mvS] at hg hset k4
    have hR : i < (mvR x y z m.s i).length := by omega
    obtain ⟨_, hgi⟩ := List.getElem?_eq_some_iff.1 hg
    generalize mvR x y z m.s i = R at *
    simp [h, hln, rowW_some hg, w1, w2, w3, hgi]
    have hg2 : (mvR x y z m.s (i + 1))[i]? = some [.int .i64 (s.x + x), .int .i64 (s.y + y), .int .i64 (s.z + z)] := by
      rw [← hset]
      exact List.getElem?_set_self hR
    rw [hset]
    refine ⟨indW_of (by decide +kernel), ?_⟩
    simp [rowW_some hg2]
    refine callW_of k4 (.inl rfl) ?_
    cases ok
    · simp [hbd rfl]
    · simp [hw]
      refine ⟨i + 1, ⟨by omega, fun j hj hji => ?_⟩, by omega, by omega, rfl⟩
      have h1 := hgr rfl j hj hji
      have e : m.s[j] = spt m j := (getElem!_pos m.s j hj).symm
      rw [e] at h1
      exact h1
  · have ei : i = m.s.length := by omega
    subst ei
    have e0 : E = 0 := hgood (fun j hj => hall j hj hj)
    have e2 := mvR_end x y z m.s
    have hl := mvR_len x y z m.s m.s.length
    have hV : (mvR x y z m.s m.s.length).map (fun e => e.map cellV) = mvR x y z m.s m.s.length := by rw [e2]; exact sptM_V _
    have hfV := fceM_V m.f
    have em : mshC (mvM m x y z) = [.sl (mvR x y z m.s m.s.length), .sl (m.f.map fceC)] := by rw [e2]; rfl
    rw [em]
    generalize mvR x y z m.s m.s.length = R at *
    generalize m.f.map fceC = FF at *
    simp [h, e0, hV, hfV]
end Go.Gv

set_option linter.unusedSimpArgs false
namespace Go.Gv
def trP (x y : Int) (p : Pnt) : Pnt := (p.1 + x, p.2 + y)
def trT (x y : Int) (t : Tri) : Tri := (trP x y t.1, trP x y t.2.1, trP x y t.2.2)
theorem turn_tr (x y : Int) (a b c : Pnt) : turnP (trP x y a) (trP x y b) (trP x y c) = turnP a b c := by
  unfold turnP trP
  simp only
  rw [show b.1 + x - (a.1 + x) = b.1 - a.1 by omega, show c.2 + y - (a.2 + y) = c.2 - a.2 by omega, show b.2 + y - (a.2 + y) = b.2 - a.2 by omega, show c.1 + x - (a.1 + x) = c.1 - a.1 by omega]
theorem turnT_tr (x y : Int) (t : Tri) : turnT (trT x y t) = turnT t := turn_tr x y _ _ _
theorem ovT_tr (x y : Int) (t u : Tri) : ovT (trT x y t) (trT x y u) = ovT t u := by
  unfold ovT sepT sep1 trT
  simp only [turn_tr]
theorem trP_inj {x y : Int} {p q : Pnt} : (trP x y p = trP x y q) ↔ p = q := by
  unfold trP
  constructor
  · intro h
    have h1 := congrArg Prod.fst h
    have h2 := congrArg Prod.snd h
    simp only at h1 h2
    exact Prod.ext (by omega) (by omega)
  · rintro rfl; rfl
section
variable {m : Msh} {x y z : Int} (hv : validM m = true) (hr : ∀ i, i < m.s.length → rightS (mvS x y z (spt m i)) = true)
theorem mv_spt (m : Msh) (x y z : Int) {i : Nat} (h : i < m.s.length) : spt (mvM m x y z) i = mvS x y z (spt m i) := by
  unfold spt mvM
  simp only
  rw [getElem!_pos _ i (by simpa using h), getElem!_pos _ i h, List.getElem_map]
theorem mv_len (m : Msh) (x y z : Int) : (mvM m x y z).s.length = m.s.length := by simp [mvM]
theorem mv_f (m : Msh) (x y z : Int) : (mvM m x y z).f = m.f := rfl
theorem mv_fce (m : Msh) (x y z : Int) (i : Nat) : fce (mvM m x y z) i = fce m i := rfl
theorem mv_pt (m : Msh) (x y z : Int) {i : Nat} (h : i < m.s.length) : ptS (spt (mvM m x y z) i) = trP x y (ptS (spt m i)) := by rw [mv_spt m x y z h]; rfl
theorem mv_tri (m : Msh) (x y z : Int) {f : Fce} (h : inS m f = true) : triF (mvM m x y z) f = trT x y (triF m f) := by
  obtain ⟨⟨_, h1⟩, ⟨_, h2⟩, ⟨_, h3⟩⟩ := inS_bd h
  unfold triF trT
  rw [mv_pt m x y z h1, mv_pt m x y z h2, mv_pt m x y z h3]
include hv hr
theorem mv_okc (a b : Int) : okc (mvM m x y z) a b = okc m a b := by
  unfold okc
  rw [mv_len]
  cases h : inR1 m.s.length a
  · rfl
  · have h' : a.toNat < m.s.length := by
      simp only [inR1, Bool.and_eq_true, decide_eq_true_eq] at h
      omega
    rw [mv_spt m x y z h', hr _ h', valid_s hv h']
theorem mv_ok (f : Fce) : okF (mvM m x y z) f = okF m f := by
  unfold okF
  rw [mv_okc hv hr, mv_okc hv hr, mv_okc hv hr]
theorem mv_snd (i : Nat) : sndB (mvM m x y z) i = sndB m i := by
  unfold sndB
  rw [mv_fce, mv_ok hv hr]
  cases h : okF m (fce m i)
  · rfl
  · rw [mv_tri m x y z (okF_inS h), turnT_tr]
theorem mv_valid : validM (mvM m x y z) = true := by
  have e1 : fil (farB (mvM m x y z)) m.s.length = [] := fil_nil.2 fun i hi => by unfold farB; rw [mv_spt m x y z hi, hr i hi]; rfl
  have e2 : fil (sameB (mvM m x y z)) m.s.length = [] := fil_nil.2 fun i hi => by
    have h := fil_nil.1 (valid_LL hv (fil (sameB m) m.s.length) (by simp [LL])) i hi
    unfold sameB at h ⊢
    rw [valid_s hv hi, Bool.true_and, List.any_eq_false] at h
    rw [mv_spt m x y z hi, hr i hi, Bool.true_and, List.any_eq_false]
    intro k hk
    have hki := List.mem_range.1 hk
    have h2 := h k hk
    rw [valid_s hv (show k < m.s.length by omega), Bool.true_and] at h2
    rw [mv_spt m x y z (show k < m.s.length by omega), hr k (by omega), Bool.true_and]
    unfold sptP at h2 ⊢
    rw [mv_pt m x y z (show k < m.s.length by omega), mv_pt m x y z hi]
    simp only [decide_eq_true_eq] at h2 ⊢
    rwa [trP_inj]
  have e3 : fil (badB (mvM m x y z)) m.f.length = [] := fil_nil.2 fun i hi => by
    unfold badB; rw [mv_fce, mv_ok hv hr, (valid_f hv hi).1]; rfl
  have e4 : fil (flatB (mvM m x y z)) m.f.length = [] := fil_nil.2 fun i hi => by
    have h := (valid_f hv hi)
    unfold flatB
    rw [mv_fce, mv_ok hv hr, h.1, mv_tri m x y z (valid_in hv hi), turnT_tr, Bool.true_and, decide_eq_false_iff_not]
    omega
  have e5 : fil (sideB (mvM m x y z)) m.f.length = [] := fil_nil.2 fun i hi => by
    have h := fil_nil.1 (valid_LL hv (fil (sideB m) m.f.length) (by simp [LL])) i hi
    unfold sideB at h ⊢
    simp only [mv_snd hv hr, mv_fce]
    exact h
  have e6 : fil (overB (mvM m x y z)) m.f.length = [] := fil_nil.2 fun i hi => by
    have h := fil_nil.1 (valid_LL hv (fil (overB m) m.f.length) (by simp [LL])) i hi
    unfold overB at h ⊢
    rw [valid_snd hv hi, Bool.true_and, List.any_eq_false] at h
    rw [mv_snd hv hr, valid_snd hv hi, Bool.true_and, List.any_eq_false]
    intro k hk
    have h2 := h k hk
    have hki := List.mem_range.1 hk
    rw [valid_snd hv (show k < m.f.length by omega), Bool.true_and] at h2
    rw [mv_snd hv hr, valid_snd hv (show k < m.f.length by omega), Bool.true_and, mv_fce, mv_fce, mv_tri m x y z (valid_in hv hi), mv_tri m x y z (valid_in hv (show k < m.f.length by omega)), ovT_tr]
    exact h2
  have hs : smallM (mvM m x y z) = smallM m := by unfold smallM; rw [mv_len, mv_f]
  have hs2 : smallM m = true := by simp only [validM, Bool.and_eq_true] at hv; exact hv.1
  unfold validM
  rw [hs, hs2, Bool.true_and, List.all_eq_true]
  intro l hl
  rw [decide_eq_true_eq]
  unfold LL at hl
  rw [mv_len, mv_f, e1, e2, e3, e4, e5, e6] at hl
  simp only [List.mem_cons, List.not_mem_nil, or_false, or_self] at hl
  exact hl
omit hr
theorem mv_sp {i : Nat} (hi : i < m.f.length) : spA (mvM m x y z) i = mvS x y z (spA m i) ∧ spB (mvM m x y z) i = mvS x y z (spB m i) ∧ spC (mvM m x y z) i = mvS x y z (spC m i) := by
  obtain ⟨⟨_, h1⟩, ⟨_, h2⟩, ⟨_, h3⟩⟩ := inS_bd (valid_in hv hi)
  exact ⟨mv_spt m x y z h1, mv_spt m x y z h2, mv_spt m x y z h3⟩
theorem mv_sum {i : Nat} (hi : i < m.f.length) : sumF (mvM m x y z) i = sumF m i + 3 * z := by
  obtain ⟨h1, h2, h3⟩ := mv_sp (x := x) (y := y) (z := z) hv hi
  unfold sumF
  rw [h1, h2, h3]
  simp only [mvS]
  omega
theorem mv_cen {i : Nat} (hi : i < m.f.length) : cenX (mvM m x y z) i = cenX m i + 3 * x ∧ cenY (mvM m x y z) i = cenY m i + 3 * y := by
  obtain ⟨h1, h2, h3⟩ := mv_sp (x := x) (y := y) (z := z) hv hi
  unfold cenX cenY
  rw [h1, h2, h3]
  simp only [mvS]
  omega
theorem mv_tw {i : Nat} (hi : i < m.f.length) : twF (mvM m x y z) i = twF m i := by
  unfold twF
  rw [mv_fce, mv_tri m x y z (valid_in hv hi), turnT_tr]
omit hv in
theorem mv_nb (i k : Nat) : nbF (mvM m x y z) i k = nbF m i k := rfl
theorem mv_dif {i j : Nat} (hi : i < m.f.length) (hj : j < m.f.length) : difF (mvM m x y z) i j = difF m i j := by
  unfold difF
  rw [mv_sum hv hi, mv_sum hv hj]
  omega
theorem mv_num {i j : Nat} (hi : i < m.f.length) (hj : j < m.f.length) : numF (mvM m x y z) i j = numF m i j := by
  unfold numF
  rw [mv_dif hv hi hj]
theorem mv_den {i j : Nat} (hi : i < m.f.length) (hj : j < m.f.length) : denF (mvM m x y z) i j = denF m i j := by
  obtain ⟨a1, a2⟩ := mv_cen (x := x) (y := y) (z := z) hv hi
  obtain ⟨b1, b2⟩ := mv_cen (x := x) (y := y) (z := z) hv hj
  unfold denF
  rw [a1, a2, b1, b2, show cenX m i + 3 * x - (cenX m j + 3 * x) = cenX m i - cenX m j by omega, show cenY m i + 3 * y - (cenY m j + 3 * y) = cenY m i - cenY m j by omega]
theorem mv_stp {i : Nat} (hi : i < m.f.length) {b n : Int} (hb : b < m.f.length) (hn : n < m.f.length) : stpF (mvM m x y z) i b n = stpF m i b n := by
  unfold stpF
  by_cases h0 : n < 0
  · rw [if_pos (.inl h0), if_pos (.inl h0)]
  · rw [mv_sum hv hi, mv_sum hv (show n.toNat < m.f.length by omega)]
    have e : (n < 0 ∨ sumF m i + 3 * z ≤ sumF m n.toNat + 3 * z) ↔ (n < 0 ∨ sumF m i ≤ sumF m n.toNat) := by omega
    by_cases h1 : n < 0 ∨ sumF m i ≤ sumF m n.toNat
    · rw [if_pos h1, if_pos (e.2 h1)]
    · rw [if_neg h1, if_neg (fun h => h1 (e.1 h))]
      by_cases h2 : b < 0
      · rw [if_pos h2, if_pos h2]
      · rw [if_neg h2, if_neg h2]
        unfold cmpF
        rw [mv_num hv hi (show n.toNat < m.f.length by omega), mv_num hv hi (show b.toNat < m.f.length by omega), mv_den hv hi (show n.toNat < m.f.length by omega), mv_den hv hi (show b.toNat < m.f.length by omega)]
theorem mv_up {i : Nat} (hi : i < m.f.length) : ∀ k, upF (mvM m x y z) i k = upF m i k
  | 0 => rfl
  | k + 1 => by
    rw [upF, upF, mv_up hi k, mv_nb]
    refine mv_stp hv hi ?_ (nbF_bd m i k).2
    rcases upF_bd m i k with h | h <;> omega
theorem mv_run {i : Nat} (hi : i < m.f.length) : runF (mvM m x y z) i = runF m i := by
  unfold runF
  rw [mv_up hv hi]
  rfl
theorem mv_flow : flowL (mvM m x y z) = flowL m := by
  unfold flowL
  rw [mv_f]
  exact List.map_congr_left fun i hi => mv_run hv (List.mem_range.1 hi)
theorem mv_pth : ∀ (k : Nat) (f : Int), f < m.f.length → pth (mvM m x y z) k f = pth m k f
  | 0, _, _ => rfl
  | k + 1, f, hf => by
    by_cases h : f < 0
    · rw [pth_neg _ _ h, pth_neg _ _ h]
    · rw [pth_succ _ _ (by omega), pth_succ _ _ (by omega), mv_run hv (show f.toNat < m.f.length by omega)]
      rw [mv_pth k _ (by rcases runF_bd m f.toNat with e | e | ⟨_, e, _⟩ <;> omega)]
theorem mv_gat : gatL (mvM m x y z) = gatL m := by
  unfold gatL
  rw [mv_f]
  refine List.map_congr_left fun i hi => ?_
  unfold gatF
  rw [mv_f]
  refine sumR_congr fun j hj => ?_
  unfold pathL
  rw [mv_f, mv_tw hv hj, mv_pth hv _ _ (by omega)]
theorem mv_sumL : sumL (mvM m x y z) = (sumL m).map fun s => s + 3 * z := by
  unfold sumL
  rw [mv_f, List.map_map]
  exact List.map_congr_left fun i hi => mv_sum hv (List.mem_range.1 hi)
end
end Go.Gv

set_option linter.unusedSimpArgs false
set_option maxRecDepth 4000
namespace Go.Gv
theorem natR_len (l : List Nat) : (natR l).length = l.length := by simp [natR]
theorem natR_get {l : List Nat} {i : Nat} (h : i < l.length) : (natR l)[i]? = some [.int .i64 ((l[i] : Nat) : Int)] := by simp [natR, h]
theorem natR_isC (l : List Nat) : ∀ e ∈ natR l, e.length = 1 ∧ ∀ c ∈ e, isC1 c = true := by
  intro e he
  obtain ⟨x, _, rfl⟩ := List.mem_map.1 he
  simp
theorem natR_isF (l : List Nat) : ∀ e ∈ natR l, ∀ c ∈ e, isF1 c = true := by
  intro e he c hc
  obtain ⟨x, _, rfl⟩ := List.mem_map.1 he
  simp at hc
  subst hc
  rfl
theorem inR_get {l : List Int} {i : Nat} {v : Int} (h : l[i]? = some v) : (inR l)[i]? = some [.int .i64 v] := by simp [inR, h]
theorem inR_set (l : List Int) (i : Nat) (v : Int) : (inR l).set i [.int .i64 v] = inR (l.set i v) := by simp [inR]
theorem inR_rep (n : Nat) : List.replicate n [D.int .i64 0] = inR (List.replicate n 0) := by simp [inR]
theorem slx_ne (b : Bool) {es : List (List D)} (h : es ≠ []) : slx b es = .sl es := by
  cases es with
  | nil => exact absurd rfl h
  | cons x r => cases b <;> rfl
theorem sumL_ne {m : Msh} (h : m.f.length ≠ 0) : inR (sumL m) ≠ [] := by
  intro e
  have h1 := congrArg List.length e
  rw [inR_len] at h1
  unfold sumL at h1
  rw [List.length_map, List.length_range] at h1
  exact h h1
/-- A list that is filled from its begin. -/
def upT (f : Nat → Int) (n i : Nat) : List Int := (List.range n).map fun j => if j < i then f j else 0
theorem upT_len (f : Nat → Int) (n i : Nat) : (upT f n i).length = n := by simp [upT]
theorem upT_zero (f : Nat → Int) (n : Nat) : upT f n 0 = List.replicate n 0 := by
  unfold upT
  rw [List.eq_replicate_iff]
  refine ⟨by simp, fun b hb => ?_⟩
  obtain ⟨x, _, rfl⟩ := List.mem_map.1 hb
  simp
theorem upT_end (f : Nat → Int) (n : Nat) : upT f n n = (List.range n).map f := by
  unfold upT
  exact List.map_congr_left fun j hj => by rw [if_pos (List.mem_range.1 hj)]
theorem upT_set (f : Nat → Int) {n i : Nat} (h : i < n) : (upT f n i).set i (f i) = upT f n (i + 1) := by
  apply List.ext_getElem?
  intro x
  rw [List.getElem?_set]
  unfold upT
  simp only [List.getElem?_map, List.length_map, List.length_range]
  by_cases hx : x < n
  · by_cases ht : i = x
    · subst ht; simp [hx]
    · simp [hx, ht]
      by_cases h2 : x < i
      · simp [h2, show x < i + 1 by omega]
      · simp [h2, show ¬ x < i + 1 by omega]
  · have : (List.range n)[x]? = none := List.getElem?_eq_none (by simp; omega)
    rw [this]
    by_cases ht : i = x
    · omega
    · simp [ht]
theorem upT_nat (n : Nat) : inR (upT (fun j => (j : Int)) n n) = natR (List.range n) := by rw [upT_end]; simp [inR, natR]
/-- The sort of faces, as the seat's shelf gives it. -/
def SrtG (C : CC) : Prop := ∀ (m : Msh) (cs : List D), 0 < m.f.length → m.f.length < 2 ^ 62 → (∀ a b : Nat, a < m.f.length → b < m.f.length → C 375 (.int .i64 a :: .int .i64 b :: cs) (.int .i64 (sumF m b - sumF m a)) []) → ∃ Q, Ord m Q ∧ C 374 [.own 1 (natR (List.range m.f.length)), .fn 375 cs] .any [.own 1 (natR Q), .nilp]
variable {C : CC} (hC : Closed prog C)
include hC
theorem mtwice_c (m : Msh) (hv : validM m = true) (i : Nat) (hi : i < m.f.length) : C 376 [.agg (mshC m), .agg (fceC (fce m i))] (.int .i64 (twF m i)) [] := by
  have ht := valid_T hv hi
  have k1 := mtri_c hC m (fce m i) (valid_in hv hi)
  unfold okT at ht
  simp only [Bool.and_eq_true] at ht
  have k2 := mturn_c hC ht.1.1 ht.1.2 ht.2
  have e : turnP (triF m (fce m i)).1 (triF m (fce m i)).2.1 (triF m (fce m i)).2.2 = twF m i := rfl
  rw [e] at k2
  generalize triF m (fce m i) = t at *
  simp only [mshC_eq, fceC_eq, triD] at k1
  simp only [ptD] at k2
  refine start hC (nf := N376_mesh_twice) rfl rfl ?_
  simp [N376_mesh_twice, mshC_eq, fceC_eq]
  refine callW_of k1 (.inl rfl) ?_
  simp
  refine callW_of k2 (.inl rfl) ?_
  simp
theorem isFace_c (m : Msh) (x : Int) : C 377 [.agg (mshC m), .int .i64 x] (.bool (inR1 m.f.length x)) [] := by
  refine start hC (nf := N377_mesh_isFace) rfl rfl ?_
  unfold inR1
  simp [N377_mesh_isFace, mshC_eq]
  by_cases h : 0 ≤ x
  · simp [h]
  · simp [h]
theorem Twice_c (dec : Nat → List UInt8) (hI : ∀ n : Nat, n < 100 → C 127 [.int .i64 n] (.str (dec n)) []) (m : Msh) (hz : smallM m = true → m.s.length ≤ 100 ∧ m.f.length ≤ 100) (hv : validM m = true) (i : Nat) (hi : i < m.f.length) : C 373 [.agg (mshC m), .int .i64 i] (.tup [.int .i64 (twF m i), .int .i64 0]) [] := by
  have k1 := mValid_c hC dec hI m hz
  rw [hv] at k1
  have k2 := isFace_c hC m i
  have e : inR1 m.f.length (i : Int) = true := by simp [inR1, hi]
  rw [e] at k2
  have k3 := mtwice_c hC m hv i hi
  simp only [mshC_eq, fceC_eq] at k1 k2 k3
  refine start hC (nf := N373_mesh_Twice) rfl rfl ?_
  simp [N373_mesh_Twice, mshC_eq]
  refine callW_of k1 (.inl rfl) ?_
  simp
  refine callW_of k2 (.inl rfl) ?_
  simp [hi, fceC_eq]
  refine callW_of k3 (.inl rfl) ?_
  simp
  exact indW_of (by decide +kernel)
theorem acc1_c (m : Msh) (hv : validM m = true) (a b : Nat) (ha : a < m.f.length) (hb : b < m.f.length) : C 375 [.int .i64 a, .int .i64 b, .ptr [.ptr (grC m)]] (.int .i64 (sumF m b - sumF m a)) [] := by
  have ba := sumF_bd hv ha
  have bb := sumF_bd hv hb
  have w : IntKind.wrap .i64 (sumF m b - sumF m a) = sumF m b - sumF m a := wrap_i64 rfl (by omega)
  have h0 : m.f.length ≠ 0 := by omega
  have hsl : slx true (smR m m.f.length) = .sl (inR (sumL m)) := by
    rw [smR_L]
    exact slx_ne true (sumL_ne h0)
  have ga : (inR (sumL m))[a]? = some [.int .i64 (sumF m a)] := inR_get (by simp [sumL, ha])
  have gb : (inR (sumL m))[b]? = some [.int .i64 (sumF m b)] := inR_get (by simp [sumL, hb])
  refine start hC (nf := N375_relief_Accumulated_1) rfl rfl ?_
  simp [N375_relief_Accumulated_1, grC_eq, hsl, idxW_some ga, idxW_some gb, w]
  exact indW_of (by decide +kernel)
end Go.Gv

set_option linter.unusedSimpArgs false
set_option maxRecDepth 4000
namespace Go.Gv
variable {C : CC} (hC : Closed prog C)
include hC
set_option maxHeartbeats 2000000 in
theorem AccumulatedQ_c (dec : Nat → List UInt8) (hI : ∀ n : Nat, n < 100 → C 127 [.int .i64 n] (.str (dec n)) []) (m : Msh) (hz : smallM m = true → m.s.length ≤ 100 ∧ m.f.length ≤ 100) (hQ : validM m = true → m.f.length ≤ 100 → ∃ Q, Ord m Q ∧ C 374 [.own 1 (natR (List.range m.f.length)), .fn 375 [.ptr [.ptr (grC m)]]] .any [.own 1 (natR Q), .nilp]) : C 371 [.agg (mshC m)] (if validM m then .tup [.sl (inR (gatL m)), .int .i64 0] else .tup [.nils, .int .i64 1]) [] := by
  have k1 := made_c hC dec hI m hz
  simp only [mshC_eq] at k1
  cases hv : validM m
  · rw [hv] at k1
    simp at k1
    refine start hC (nf := N371_relief_Accumulated) rfl rfl ?_
    simp [N371_relief_Accumulated, mshC_eq]
    refine callW_of k1 (.inr rfl) ?_
    simp
  have hm := (hz (by simp only [validM, Bool.and_eq_true] at hv; exact hv.1)).2
  rw [hv] at k1
  simp only [if_true] at k1
  have hb := tot_bd hv hm
  obtain ⟨Q, hO, k4⟩ := hQ hv hm
  have kF := flow_c hC m hv
  have hQl := hO.len
  have hsl : ∃ d, d = slx true (smR m m.f.length) := ⟨_, rfl⟩
  have gE : grC m = [.sl (nbA m), slx true (smR m m.f.length), slx true (ctR m m.f.length)] := grC_eq m
  have kT := fun i hi => Twice_c hC dec hI m hz hv i hi
  simp only [mshC_eq] at kT
  have hsm : (smR m m.f.length).length = m.f.length := smR_len m m.f.length
  have hge := natR_isC Q
  have hgf := natR_isF Q
  have hQR := natR_len Q
  have hQg : ∀ (p : Nat) (h : p < Q.length), (natR Q)[p]? = some [.int .i64 ((Q[p] : Nat) : Int)] := fun p h => natR_get h
  have hfl : ∀ (i : Nat) (h : i < m.f.length), (inR (flowL m))[i]? = some [.int .i64 (runF m i)] := fun i h => inR_get (by simp [flowL, h])
  generalize hRQ : natR Q = RQ at *
  refine start hC (nf := N371_relief_Accumulated) rfl rfl ?_
  simp [N371_relief_Accumulated, mshC_eq]
  rw [gE] at k1 k4 kF
  have hSl : (slx true (smR m m.f.length) = .nils ∧ m.f.length = 0) ∨ slx true (smR m m.f.length) = .sl (smR m m.f.length) := by
    cases hS : smR m m.f.length with
    | nil => exact .inl ⟨rfl, by have := congrArg List.length hS; rw [smR_len] at this; simpa using this⟩
    | cons e r => exact .inr rfl
  refine callW_of k1 (.inr rfl) ?_
  simp [hsm]
  generalize slx true (smR m m.f.length) = Ga at *
  generalize slx true (ctR m m.f.length) = Gb at *
  generalize nbA m = Gc at *
  refine ⟨by omega, ?_⟩
  have r0 := inR_rep m.f.length
  have u1 := upT_zero (twF m) m.f.length
  have u2 := upT_zero (fun j => (j : Int)) m.f.length
  have v1 : ∀ i, i < m.f.length → (inR (upT (twF m) m.f.length i)).set i [.int .i64 (twF m i)] = inR (upT (twF m) m.f.length (i + 1)) := fun i h => by rw [inR_set, upT_set _ h]
  have v2 : ∀ i, i < m.f.length → (inR (upT (fun j => (j : Int)) m.f.length i)).set i [.int .i64 (i : Int)] = inR (upT (fun j => (j : Int)) m.f.length (i + 1)) := fun i h => by rw [inR_set]; exact congrArg inR (upT_set (fun j => (j : Int)) h)
  have x1 : ∀ i, (inR (upT (twF m) m.f.length i)).length = m.f.length := fun i => by rw [inR_len, upT_len]
  have x2 : ∀ i, (inR (upT (fun j => (j : Int)) m.f.length i)).length = m.f.length := fun i => by rw [inR_len, upT_len]
  have y1 : inR (upT (twF m) m.f.length m.f.length) = inR (acR m []) := by rw [upT_end, acR_nil]
  have y2 := upT_nat m.f.length
  have wA : ∀ i j, j < m.f.length → (inR (upT (twF m) m.f.length i))[j]? = some [.int .i64 (if j < i then twF m j else 0)] := fun i j h => inR_get (by simp [upT, h])
  have wB : ∀ i j, j < m.f.length → (inR (upT (fun j => (j : Int)) m.f.length i))[j]? = some [.int .i64 (if j < i then (j : Int) else 0)] := fun i j h => inR_get (by simp [upT, h])
  rw [r0]
  generalize hA : (fun i => inR (upT (twF m) m.f.length i)) = A
  have hA' : ∀ i, inR (upT (twF m) m.f.length i) = A i := fun i => by rw [← hA]
  generalize hB : (fun i => inR (upT (fun j => (j : Int)) m.f.length i)) = B
  have hB' : ∀ i, inR (upT (fun j => (j : Int)) m.f.length i) = B i := fun i => by rw [← hB]
  simp only [hA', hB'] at v1 v2 x1 x2 y1 y2 wA wB
  rw [← u1, hA']
  clear hA hB
  have z0 : A 0 = B 0 := by rw [← hA', ← hB', u1, u2]
  refine loop_of Nat (fun i => [(1, .ptr [slx m.sn (m.s.map sptC), slx m.fn (m.f.map fceC)]), (4, .adr (.r 10064) 0 0), (6, .ref (.r 10096) 0 m.f.length), (7, .ref (.r 10112) 0 m.f.length), (34, .int .i64 m.f.length), (35, .int .i64 i), (10064, .blk 1 [[.ptr [.sl Gc, Ga, Gb]]]), (10096, .blk 1 (A i)), (10112, .blk 1 (B i))])
    (fun i => i ≤ m.f.length) (fun i => m.f.length - i) 0 (by simp) (by simp [z0]) ?_
  intro i hi
  simp
  refine brB_of (fun h => ?_) (fun h => ?_) <;> simp at h
  · have hw : IntKind.wrap .i64 ((i : Int) + 1) = ((i + 1 : Nat) : Int) := wrap_i64 (by omega) (by omega)
    have kTi := kT i h
    have e1 := v1 i h
    have e2 := v2 i h
    have f1 := x1 i
    have f2 := x2 i
    simp [h]
    refine callW_of kTi (.inl rfl) ?_
    obtain ⟨p, gA⟩ : ∃ p, (A i)[i]'(by omega) = [.int .i64 p] := by
      have g2 := wA i i h
      exact ⟨_, (List.getElem?_eq_some_iff.1 g2).2⟩
    obtain ⟨q, gB⟩ : ∃ p, (B i)[i]'(by omega) = [.int .i64 p] := by
      have g2 := wB i i h
      exact ⟨_, (List.getElem?_eq_some_iff.1 g2).2⟩
    simp [f1, f2, h, e1, e2, hw]
    exact ⟨by rw [gA]; exact Nat.le_refl _, by rw [gB]; exact Nat.le_refl _, i + 1, by omega, by omega, by omega, by rw [gA]; exact e1, by rw [gB]; exact e2⟩
  · have ei : i = m.f.length := by omega
    subst ei
    have n0 := natR_len (List.range m.f.length)
    rw [List.length_range] at n0
    have n1 := natR_isC (List.range m.f.length)
    simp [h, y1, y2]
    refine ⟨n0, fun e he => (n1 e he).2, ?_⟩
    refine callUW_of k4 (.inr (fun e he c hc => hgf e he c hc)) (by rw [hQR, n0, hQl]) hge ?_
    simp
    refine callW_of kF (.inr rfl) ?_
    simp [hQR, hQl]
    generalize inR (flowL m) = Fl at *
    refine loop_of Nat (fun p => [(6, .ref (.r 10096) 0 m.f.length), (9, .sl Fl), (60, .ref (.r 10960) 0 m.f.length), (61, .int .i64 m.f.length), (62, .int .i64 p), (10096, .blk 1 (inR (acR m (Q.take p)))), (10960, .blk 1 RQ)])
      (fun p => p ≤ m.f.length) (fun p => m.f.length - p) 0 (by simp) (by simp) ?_
    intro p hp
    simp
    refine brB_of (fun h2 => ?_) (fun h2 => ?_) <;> simp at h2
    · have hw : IntKind.wrap .i64 ((p : Int) + 1) = ((p + 1 : Nat) : Int) := wrap_i64 (by omega) (by omega)
      have hpQ : p < Q.length := by omega
      have hx := hO.lt hpQ
      have hq := hQg p hpQ
      have hf := hfl Q[p] hx
      have hat := accP_at hO hpQ
      have htk : Q.take (p + 1) = Q.take p ++ [Q[p]] := List.take_succ_eq_append_getElem hpQ
      have hlA : (inR (acR m (Q.take p))).length = m.f.length := by rw [inR_len, acR_len]
      by_cases hneg : runF m Q[p] < 0
      · have hst := acR_stay (m := m) (P := Q.take p) (i := Q[p]) hneg
        rw [← htk] at hst
        simp [h2, rowW_some hq, hQR, hQl, idxW_some hf, show ¬ 0 ≤ runF m Q[p] by omega, hw]
        exact ⟨p + 1, by omega, by omega, rfl, by rw [hst]⟩
      · obtain ⟨t, ht⟩ : ∃ t : Nat, runF m Q[p] = (t : Int) := ⟨(runF m Q[p]).toNat, by omega⟩
        have htl : t < m.f.length := by rcases runF_bd m Q[p] with e | e | ⟨_, e, _⟩ <;> omega
        have gt : (inR (acR m (Q.take p)))[t]? = some [.int .i64 (accP m (Q.take p) t)] := inR_get (acR_get m _ htl)
        have gi : (inR (acR m (Q.take p)))[Q[p]]? = some [.int .i64 (gatF m Q[p])] := inR_get (by rw [acR_get m _ hx, hat])
        have hse := acR_give (m := m) (P := Q.take p) (i := Q[p]) ht
        rw [← htk] at hse
        have hse2 : (inR (acR m (Q.take p))).set t [.int .i64 (accP m (Q.take p) t + gatF m Q[p])] = inR (acR m (Q.take (p + 1))) := by rw [inR_set, hse]
        have hbd := accP_bd hv hO (p := p + 1) htl
        rw [htk, accP_snoc] at hbd
        have hgv : giv m t Q[p] = gatF m Q[p] := by unfold giv; rw [if_pos ht]
        rw [hgv] at hbd
        have w1 : IntKind.wrap .i64 (accP m (Q.take p) t + gatF m Q[p]) = accP m (Q.take p) t + gatF m Q[p] := wrap_i64 rfl (by omega)
        obtain ⟨_, gt2⟩ := List.getElem?_eq_some_iff.1 gt
        generalize inR (acR m (Q.take p)) = R at *
        simp [h2, rowW_some hq, hQR, hQl, idxW_some hf, ht, rowW_some gt, rowW_some gi, hlA, htl, hx, w1, gt2, hse2, hw]
        exact ⟨indW_of (by decide +kernel), p + 1, by omega, by omega, by omega, rfl⟩
    · have ep : p = m.f.length := by omega
      subst ep
      have hfin : inR (acR m (Q.take m.f.length)) = inR (gatL m) := by rw [List.take_of_length_le (by omega), acR_all hO.perm]
      have hgl : (inR (gatL m)).length = m.f.length := by simp [gatL]
      simp [h2, hfin]
      exact ⟨by simp [gatL], by rw [List.take_of_length_le (by omega)]⟩
theorem Accumulated_c (hG : SrtG C) (dec : Nat → List UInt8) (hI : ∀ n : Nat, n < 100 → C 127 [.int .i64 n] (.str (dec n)) []) (m : Msh) (hz : smallM m = true → m.s.length ≤ 100 ∧ m.f.length ≤ 100) (h1 : validM m = true → 0 < m.f.length) : C 371 [.agg (mshC m)] (if validM m then .tup [.sl (inR (gatL m)), .int .i64 0] else .tup [.nils, .int .i64 1]) [] :=
  AccumulatedQ_c hC dec hI m hz fun hv hm => hG m [.ptr [.ptr (grC m)]] (h1 hv) (by omega) (fun a b ha hb => acc1_c hC m hv a b ha hb)
end Go.Gv

set_option linter.unusedSimpArgs false
set_option maxRecDepth 4000
namespace Go.Gv
def outS (m : Msh) (i : Nat) : Int := sumR (fun x => if runF m x < 0 then gatF m x else 0) i
def ownS (m : Msh) (i k : Nat) : Int := twF m i + sumR (giv m i) k
variable {C : CC} (hC : Closed prog C)
include hC
end Go.Gv

set_option linter.unusedSimpArgs false
set_option maxRecDepth 4000
namespace Go.Gv
variable {C : CC} (hC : Closed prog C)
include hC
set_option maxHeartbeats 4000000 in
theorem ReliefMoves_c (hG : SrtG C) (dec : Nat → List UInt8) (hI : ∀ n : Nat, n < 100 → C 127 [.int .i64 n] (.str (dec n)) []) (m : Msh) (x : Int) (hx : -2147483648 ≤ x ∧ x ≤ 2147483647) (y : Int) (hy : -2147483648 ≤ y ∧ y ≤ 2147483647) (z : Int) (hz' : -2147483648 ≤ z ∧ z ≤ 2147483647) :
    C 396 [.agg (mshC m), .int .i32 x, .int .i32 y, .int .i32 z] (.bool true) [] := by
  have ka := awake10_c hC dec hI
  have kr := ready_c hC m
  have wx : IntKind.wrap .i64 x = x := wrap_i64 rfl (by omega)
  have wy : IntKind.wrap .i64 y = y := wrap_i64 rfl (by omega)
  have wz : IntKind.wrap .i64 z = z := wrap_i64 rfl (by omega)
  have w3 : IntKind.wrap .i64 (3 * z) = 3 * z := wrap_i64 rfl (by omega)
  refine start hC (nf := N396_law10_ReliefMoves) rfl rfl ?_
  simp only [mshC_eq] at kr
  simp [N396_law10_ReliefMoves, mshC_eq]
  refine callW_of ka (.inl rfl) ?_
  simp
  refine callW_of kr (.inl rfl) ?_
  cases hrd : (decide (m.s.length ≤ 80) && decide (1 ≤ m.f.length) && decide (m.f.length ≤ 80) && validM m)
  · simp
  simp only [Bool.and_eq_true, decide_eq_true_eq] at hrd
  obtain ⟨⟨⟨r1, r2⟩, r3⟩, hv⟩ := hrd
  have hz : smallM m = true → m.s.length ≤ 100 ∧ m.f.length ≤ 100 := fun _ => by omega
  have kM := Move_c hC dec hI m hz x y z
  have hE : mvE m x y z = 0 ∨ mvE m x y z = 5 := by
    unfold mvE
    rw [if_pos hv]
    split
    · exact .inr rfl
    · split
      · exact .inl rfl
      · exact .inr rfl
  rcases hE with hE | hE
  rotate_left
  · rw [hE, if_neg (by decide)] at kM
    simp only [mshC_eq] at kM
    simp [wx, wy, wz, mshC_eq]
    refine callW_of kM (.inr rfl) ?_
    simp
  rw [hE, if_pos rfl] at kM
  have hall : (m.s.all fun s => rightS (mvS x y z s)) = true := by
    unfold mvE at hE
    rw [if_pos hv] at hE
    split at hE
    · cases hE
    · split at hE
      · rename_i h; exact h
      · cases hE
  have hr : ∀ i, i < m.s.length → rightS (mvS x y z (spt m i)) = true := fun i hi => by
    have h1 := List.all_eq_true.1 hall _ (List.getElem_mem hi)
    have e : m.s[i] = spt m i := (getElem!_pos m.s i hi).symm
    rw [e] at h1
    exact h1
  have hvm := mv_valid hv hr
  have hzm : smallM (mvM m x y z) = true → (mvM m x y z).s.length ≤ 100 ∧ (mvM m x y z).f.length ≤ 100 := fun _ => by rw [mv_len, mv_f]; omega
  have k1 := Flow_c hC dec hI m hz
  have k2 := Flow_c hC dec hI (mvM m x y z) hzm
  have k3 := Accumulated_c hC hG dec hI m hz (fun _ => by omega)
  have k4 := Accumulated_c hC hG dec hI (mvM m x y z) hzm (fun _ => by rw [mv_f]; omega)
  have k5 := Sums_c hC dec hI m hz
  have k6 := Sums_c hC dec hI (mvM m x y z) hzm
  rw [hv] at k1 k3 k5
  rw [hvm] at k2 k4 k6
  simp only [if_true] at k1 k2 k3 k4 k5 k6
  rw [mv_flow hv] at k2
  rw [mv_gat hv] at k4
  have n1 : slx true (inR (sumL m)) = .sl (inR (sumL m)) := slx_ne true (sumL_ne (by omega))
  have n2 : slx true (inR (sumL (mvM m x y z))) = .sl (inR (sumL (mvM m x y z))) := slx_ne true (sumL_ne (by rw [mv_f]; omega))
  rw [n1] at k5
  rw [n2] at k6
  have lF : (flowL m).length = m.f.length := by simp [flowL]
  have lG : (gatL m).length = m.f.length := by simp [gatL]
  have q1 := eqI_c hC false false (flowL m) (flowL m) (by omega) (by omega)
  have q2 := eqI_c hC false false (gatL m) (gatL m) (by omega) (by omega)
  simp only [← inR_eq] at q1 q2
  simp at q1 q2
  have hsa : ∀ (i : Nat) (h : i < m.f.length), (inR (sumL m))[i]? = some [.int .i64 (sumF m i)] := fun i h => inR_get (by simp [sumL, h])
  have hsb : ∀ (i : Nat) (h : i < m.f.length), (inR (sumL (mvM m x y z)))[i]? = some [.int .i64 (sumF m i + 3 * z)] := fun i h => inR_get (by rw [mv_sumL hv]; simp [sumL, h])
  have l1 : (inR (sumL m)).length = m.f.length := by simp [sumL]
  have l2 : (inR (sumL (mvM m x y z))).length = m.f.length := by simp [sumL, mv_f]
  have em : mshC (mvM m x y z) = [.sl ((m.s.map (mvS x y z)).map sptC), .sl (m.f.map fceC)] := rfl
  rw [em] at kM k2 k4 k6
  generalize inR (sumL (mvM m x y z)) = B at *
  generalize inR (sumL m) = A at *
  generalize inR (flowL m) = F at *
  generalize inR (gatL m) = G at *
  generalize (m.s.map (mvS x y z)).map sptC = SS at *
  generalize hFF : m.f.map fceC = FF at *
  simp only [mshC_eq, hFF] at k1 k3 k5 kM
  simp [wx, wy, wz, mshC_eq, hFF]
  refine callW_of kM (.inr rfl) ?_
  simp [mshC_eq, hFF]
  refine callW_of k1 (.inr rfl) ?_
  simp
  refine callW_of k2 (.inr rfl) ?_
  simp [mshC_eq, hFF]
  refine callW_of k3 (.inr rfl) ?_
  simp
  refine callW_of k4 (.inr rfl) ?_
  simp [mshC_eq, hFF]
  refine callW_of k5 (.inr rfl) ?_
  simp
  refine callW_of k6 (.inr rfl) ?_
  simp
  refine callW_of q1 (.inl rfl) ?_
  simp
  refine callW_of q2 (.inl rfl) ?_
  simp [l1, l2]
  refine loop_of Nat (fun i => [(3, .int .i32 z), (19, .sl A), (21, .sl B), (116, .int .i64 m.f.length), (117, .int .i64 i)]) (fun i => i ≤ m.f.length) (fun i => m.f.length - i) 0 (by simp) (by simp) ?_
  intro i hi
  simp
  refine brB_of (fun h => ?_) (fun h => ?_) <;> simp at h
  · have hw : IntKind.wrap .i64 ((i : Int) + 1) = ((i + 1 : Nat) : Int) := wrap_i64 (by omega) (by omega)
    have ba := sumF_bd hv h
    have w4 : IntKind.wrap .i64 (sumF m i + 3 * z) = sumF m i + 3 * z := wrap_i64 rfl (by omega)
    simp [h, idxW_some (hsa i h), idxW_some (hsb i h), wz, w3, w4, hw]
    exact ⟨indW_of (by decide +kernel), i + 1, by omega, by omega, rfl⟩
  · simp [h]
end Go.Gv
