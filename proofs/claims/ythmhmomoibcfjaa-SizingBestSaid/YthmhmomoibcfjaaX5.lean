/-
  Texts of the proof: L2, K22, K23, K24, L3, K25.
-/
import Derived.Test.YthmhmomoibcfjaaX4
set_option linter.all false
set_option linter.unusedSimpArgs false
namespace Go.Gv

/-! ### Sums -/
def S (g : Nat → Int) : Nat → Int
  | 0 => 0
  | n + 1 => S g n + g n
theorem S_congr {g g' : Nat → Int} : ∀ n, (∀ a, a < n → g a = g' a) → S g n = S g' n
  | 0, _ => rfl
  | n + 1, h => by simp only [S]; rw [S_congr n (fun a ha => h a (by omega)), h n (by omega)]
theorem S_le {g g' : Nat → Int} : ∀ n, (∀ a, a < n → g a ≤ g' a) → S g n ≤ S g' n
  | 0, _ => Int.le_refl _
  | n + 1, h => by
    simp only [S]
    have := S_le n (fun a ha => h a (by omega))
    have := h n (by omega)
    omega
theorem S_add {g g' : Nat → Int} : ∀ n, S (fun a => g a + g' a) n = S g n + S g' n
  | 0 => rfl
  | n + 1 => by simp only [S]; rw [S_add n]; omega
theorem S_zero : ∀ n, S (fun _ => 0) n = 0
  | 0 => rfl
  | n + 1 => by simp only [S]; rw [S_zero n]; rfl
theorem S_nonneg {g : Nat → Int} (n : Nat) (h : ∀ a, a < n → 0 ≤ g a) : 0 ≤ S g n := by
  have := S_le (g := fun _ => 0) (g' := g) n h
  rw [S_zero] at this
  exact this
theorem S_ext {g : Nat → Int} {m : Nat} : ∀ n, m ≤ n → (∀ a, m ≤ a → a < n → g a = 0) → S g n = S g m
  | 0, h, _ => by
    have : m = 0 := by omega
    subst this; rfl
  | n + 1, h, hz => by
    by_cases e : m = n + 1
    · subst e; rfl
    · simp only [S]
      rw [S_ext n (by omega) (fun a h1 h2 => hz a h1 (by omega)), hz n (by omega) (by omega)]
      omega
theorem sum_filter (f : Nat → Int) (p : Nat → Bool) : ∀ n, (((List.range n).filter p).map f).sum = S (fun a => if p a then f a else 0) n
  | 0 => rfl
  | n + 1 => by
    rw [List.range_succ, List.filter_append, List.map_append, List.sum_append, sum_filter f p n]
    simp only [S, List.filter_cons, List.filter_nil]
    cases p n <;> simp

theorem sumG_eq {v : Nat → Int} : ∀ {l : List Nat} {s : Int}, (∀ a ∈ l, v a ≠ -1) → (∀ a ∈ l, 0 ≤ v a) → 0 ≤ s → s + (l.map v).sum < 9223372036854775808 → sumG v l s = some (s + (l.map v).sum)
  | [], s, _, _, _, _ => by simp [sumG]
  | a :: l, s, h1, h2, h3, h4 => by
    have h5 := h2 a (by simp)
    have h6 : 0 ≤ (l.map v).sum := by
      have : ∀ l : List Nat, (∀ a ∈ l, 0 ≤ v a) → 0 ≤ (l.map v).sum := by
        intro l
        induction l with
        | nil => intro _; simp
        | cons x l ih => intro h; simp only [List.map_cons, List.sum_cons]; have := h x (by simp); have := ih (fun a ha => h a (by simp [ha])); omega
      exact this l (fun a ha => h2 a (by simp [ha]))
    simp only [List.map_cons, List.sum_cons] at h4 ⊢
    simp only [sumG]
    rw [if_neg (h1 a (by simp)), wrap_i64 rfl (by omega), sumG_eq (fun b hb => h1 b (by simp [hb])) (fun b hb => h2 b (by simp [hb])) (by omega) (by omega)]
    congr 1
    omega
theorem sumG_bad {v : Nat → Int} : ∀ {l : List Nat} {s : Int} {a : Nat}, a ∈ l → v a = -1 → sumG v l s = none
  | x :: l, s, a, h, ha => by
    simp only [sumG]
    by_cases hx : v x = -1
    · rw [if_pos hx]
    · rw [if_neg hx]
      rcases List.mem_cons.1 h with rfl | h
      · exact absurd ha hx
      · exact sumG_bad h ha

/-! ### Jobs -/
def B : Int := 18014398509481984
theorem B_eq : B = 18014398509481984 := rfl
theorem valid_facts {j : Job} (hv : jobValid j = true) : j.below.l.length ≤ 400 ∧ j.lengths.l.length = j.below.l.length ∧ j.secs.length ≤ 40 := by
  simp only [jobValid, catValid, Bool.and_eq_true, decide_eq_true_eq] at hv
  omega
/-- A pipe's own cost. -/
def ownC (j : Job) (i s : Nat) : Int := j.lengths.l[i]! * j.secs[s]!.price
theorem ownC_bd {j : Job} (hv : jobValid j = true) {i s : Nat} (hi : i < j.below.l.length) (hs : s < j.secs.length) : 0 ≤ ownC j i s ∧ ownC j i s ≤ B := by
  have h1 : 1 ≤ j.lengths.l[i]! ∧ j.lengths.l[i]! ≤ 16777216 := by
    simp only [jobValid, Bool.and_eq_true, List.all_eq_true, List.mem_range] at hv
    have := hv.2 i hi
    simp only [pipeOk, inR, Bool.and_eq_true, decide_eq_true_eq] at this
    exact this.1.1.1.2
  have h2 : 0 ≤ j.secs[s]!.price ∧ j.secs[s]!.price ≤ 1073741824 := by
    rw [getElem!_pos j.secs s hs]
    simp only [jobValid, catValid, Bool.and_eq_true, List.all_eq_true] at hv
    have := hv.1.2.1.2 _ (List.getElem_mem hs)
    simp only [secValid, Bool.and_eq_true, decide_eq_true_eq] at this
    omega
  have h3 := Int.mul_nonneg (show 0 ≤ j.lengths.l[i]! by omega) h2.1
  have h4 := Int.mul_le_mul h1.2 h2.2 h2.1 (by omega)
  refine ⟨h3, ?_⟩
  unfold ownC B
  omega

/-- Pipe a leads out of the first i pipes. -/
def fr (j : Job) (i a : Nat) : Bool := decide (j.below.l[a]! = -1) || decide ((i : Int) ≤ j.below.l[a]!)
def FS (j : Job) (f : Nat → Int) (i : Nat) : Int := S (fun a => if fr j i a then f a else 0) i
def AS (j : Job) (f : Nat → Int) (i : Nat) : Int := S (fun a => if j.below.l[a]! = (i : Int) then f a else 0) i
theorem above_sum {j : Job} (hv : jobValid j = true) (f : Nat → Int) {i : Nat} (hi : i < j.below.l.length) : ((aboveF j i).map f).sum = AS j f i := by
  unfold aboveF AS
  rw [sum_filter, S_ext (m := i) _ (by omega)]
  · exact S_congr _ (fun a _ => by simp)
  · intro a h1 h2
    rw [if_neg]
    intro h3
    have h3 : j.below.l[a]! = (i : Int) := by simpa using h3
    rcases valid_below hv h2 with h4 | h4 <;> omega
theorem FS_step {j : Job} (hv : jobValid j = true) (f : Nat → Int) {i : Nat} (hi : i < j.below.l.length) : FS j f (i + 1) + AS j f i = FS j f i + f i := by
  unfold FS AS
  simp only [S]
  have h1 : fr j (i + 1) i = true := by
    unfold fr
    rcases valid_below hv hi with h | h
    · simp [h]
    · simp only [Bool.or_eq_true, decide_eq_true_eq]; right; omega
  rw [if_pos h1]
  have h2 : S (fun a => if fr j i a = true then f a else 0) i = S (fun a => (if fr j (i + 1) a = true then f a else 0) + (if j.below.l[a]! = (i : Int) then f a else 0)) i := by
    refine S_congr _ (fun a ha => ?_)
    unfold fr
    by_cases e1 : j.below.l[a]! = (i : Int)
    · rw [if_pos e1, if_pos (by simp only [Bool.or_eq_true, decide_eq_true_eq]; omega), if_neg (by simp only [Bool.or_eq_true, decide_eq_true_eq]; omega)]
      omega
    · rw [if_neg e1]
      by_cases e2 : j.below.l[a]! = -1
      · rw [if_pos (by simp only [Bool.or_eq_true, decide_eq_true_eq]; omega), if_pos (by simp only [Bool.or_eq_true, decide_eq_true_eq]; omega)]
        omega
      · by_cases e3 : (i : Int) ≤ j.below.l[a]!
        · rw [if_pos (by simp only [Bool.or_eq_true, decide_eq_true_eq]; omega), if_pos (by simp only [Bool.or_eq_true, decide_eq_true_eq]; omega)]
          omega
        · rw [if_neg (by simp only [Bool.or_eq_true, decide_eq_true_eq]; omega), if_neg (by simp only [Bool.or_eq_true, decide_eq_true_eq]; omega)]
          omega
  rw [h2, S_add]
  omega
theorem AS_le_FS {j : Job} {f : Nat → Int} {i : Nat} (h : ∀ a, a < i → 0 ≤ f a) : AS j f i ≤ FS j f i := by
  unfold AS FS
  refine S_le _ (fun a ha => ?_)
  have := h a ha
  by_cases e : j.below.l[a]! = (i : Int)
  · rw [if_pos e, if_pos (by simp only [fr, Bool.or_eq_true, decide_eq_true_eq]; omega)]
    exact Int.le_refl _
  · rw [if_neg e]
    split <;> omega
theorem roots_sum {j : Job} (hv : jobValid j = true) (f : Nat → Int) : ((rootsF j).map f).sum = FS j f j.below.l.length := by
  unfold rootsF FS
  rw [sum_filter]
  refine S_congr _ (fun a ha => ?_)
  have e : fr j j.below.l.length a = decide (j.below.l[a]! = -1) := by
    unfold fr
    rcases valid_below hv ha with h | h
    · rw [h]; rfl
    · rw [show decide (((j.below.l.length : Nat) : Int) ≤ j.below.l[a]!) = false by simp only [decide_eq_false_iff_not]; omega, Bool.or_false]
  rw [e]
theorem root_mem {j : Job} {a : Nat} (h : a ∈ rootsF j) : a < j.below.l.length ∧ j.below.l[a]! = -1 := by
  simp only [rootsF, List.mem_filter, List.mem_range, decide_eq_true_eq] at h
  exact h

/-! ### The least value -/
theorem lv_spec (j : Job) (val : Nat → List Int) (h : Int) (a : Nat) : (lv j val h a = -1 ∧ ∀ s, s < (val a).length → (val a)[s]! ≠ -1 → okF j a h s = false) ∨
    ∃ s, s < (val a).length ∧ lv j val h a = (val a)[s]! ∧ (val a)[s]! ≠ -1 ∧ okF j a h s = true ∧ ∀ s', s' < (val a).length → (val a)[s']! ≠ -1 → okF j a h s' = true → (val a)[s]! ≤ (val a)[s']! := by
  unfold lv
  rcases least_spec (okF j a h) (val a) with ⟨h1, h2⟩ | ⟨s, h1, h2, h3, h4, h5⟩
  · exact .inl ⟨by rw [h1], h2⟩
  · exact .inr ⟨s, h1, by rw [h2], h3, h4, h5⟩

def mx (l : List Int) : Int := l.foldl max 0
theorem mx_spec : ∀ (l : List Int) (b : Int), b ≤ l.foldl max b ∧ ∀ x ∈ l, x ≤ l.foldl max b
  | [], b => ⟨Int.le_refl _, by simp⟩
  | y :: l, b => by
    obtain ⟨h1, h2⟩ := mx_spec l (max b y)
    simp only [List.foldl_cons]
    refine ⟨by omega, fun x hx => ?_⟩
    rcases List.mem_cons.1 hx with rfl | hx
    · omega
    · exact h2 x hx
theorem mx_bd {l : List Int} {t : Int} (ht : 0 ≤ t) (h : ∀ x ∈ l, x ≤ t) : mx l ≤ t := by
  unfold mx
  have : ∀ (l : List Int) (b : Int), b ≤ t → (∀ x ∈ l, x ≤ t) → l.foldl max b ≤ t := by
    intro l
    induction l with
    | nil => intro b hb _; exact hb
    | cons y l ih =>
      intro b hb h
      simp only [List.foldl_cons]
      exact ih _ (by have := h y (by simp); omega) (fun x hx => h x (by simp [hx]))
  exact this l 0 ht h

theorem get_mem {l : List Int} {s : Nat} (h : s < l.length) : l[s]! ∈ l := by
  rw [getElem!_pos l s h]; exact List.getElem_mem h

/-- The least value of rows that are -1 or not negative. -/
theorem lv_bd {j : Job} {val : Nat → List Int} {h : Int} {a : Nat} (hp : ∀ x ∈ val a, -1 ≤ x) : lv j val h a = -1 ∨ (0 ≤ lv j val h a ∧ lv j val h a ≤ mx (val a)) := by
  rcases lv_spec j val h a with ⟨h1, _⟩ | ⟨s, h1, h2, h3, _⟩
  · exact .inl h1
  · right
    have h4 := get_mem h1
    have h5 := hp _ h4
    have h6 := (mx_spec (val a) 0).2 _ h4
    rw [h2]
    exact ⟨by omega, h6⟩

/-- A cost that is exact. -/
theorem costF_eq {j : Job} (hv : jobValid j = true) {val : Nat → List Int} {i s : Nat} (hi : i < j.below.l.length) (hs : s < j.secs.length) (hp : ∀ a ∈ aboveF j i, lv j val j.secs[s]!.height a = -1 ∨ 0 ≤ lv j val j.secs[s]!.height a)
    (hb : (∀ a ∈ aboveF j i, lv j val j.secs[s]!.height a ≠ -1) → ((aboveF j i).map (lv j val j.secs[s]!.height)).sum ≤ 9000000000000000000) :
    ((∃ a ∈ aboveF j i, lv j val j.secs[s]!.height a = -1) ∧ costF j val i s = -1) ∨ ((∀ a ∈ aboveF j i, lv j val j.secs[s]!.height a ≠ -1) ∧ costF j val i s = ownC j i s + ((aboveF j i).map (lv j val j.secs[s]!.height)).sum) := by
  obtain ⟨h1, h2⟩ := ownC_bd hv hi hs
  rw [B_eq] at h2
  by_cases hx : ∃ a ∈ aboveF j i, lv j val j.secs[s]!.height a = -1
  · obtain ⟨a, ha, h3⟩ := hx
    exact .inl ⟨⟨a, ha, h3⟩, by unfold costF; rw [sumG_bad ha h3]; rfl⟩
  · right
    have hx' : ∀ a ∈ aboveF j i, lv j val j.secs[s]!.height a ≠ -1 := fun a ha e => hx ⟨a, ha, e⟩
    refine ⟨hx', ?_⟩
    have := hb hx'
    show (sumG _ _ (IntKind.wrap .i64 (ownC j i s))).getD (-1) = _
    rw [wrap_i64 (m := ownC j i s) rfl (by omega), sumG_eq hx' (fun a ha => (hp a ha).resolve_left (hx' a ha)) h1 (by omega)]
    rfl

theorem list_sum_nn {l : List Nat} {f : Nat → Int} (h : ∀ a ∈ l, 0 ≤ f a) : 0 ≤ (l.map f).sum := by
  induction l with
  | nil => simp
  | cons x l ih =>
    simp only [List.map_cons, List.sum_cons]
    have := h x (by simp)
    have := ih (fun a ha => h a (by simp [ha]))
    omega
theorem list_sum_le {l : List Nat} {f g : Nat → Int} (h : ∀ a ∈ l, f a ≤ g a) : (l.map f).sum ≤ (l.map g).sum := by
  induction l with
  | nil => simp
  | cons x l ih =>
    simp only [List.map_cons, List.sum_cons]
    have := h x (by simp)
    have := ih (fun a ha => h a (by simp [ha]))
    omega

/-- The values are -1 or not negative, and not too great. -/
theorem vals_bd {j : Job} (hv : jobValid j = true) : ∀ i, i ≤ j.below.l.length → (∀ a, a < i → ∀ x ∈ valN j a, -1 ≤ x) ∧ FS j (fun a => mx (valN j a)) i ≤ i * B
  | 0, _ => ⟨fun a h => by omega, by simp [FS, S]⟩
  | i + 1, hi => by
    obtain ⟨h1, h2⟩ := vals_bd hv i (by omega)
    have hil : i < j.below.l.length := by omega
    have hn := (valid_facts hv).1
    have hm0 : ∀ a, a < i → 0 ≤ mx (valN j a) := fun a _ => (mx_spec (valN j a) 0).1
    have h3 := AS_le_FS (j := j) (f := fun a => mx (valN j a)) hm0
    have hsum := above_sum hv (fun a => mx (valN j a)) hil
    have hB : (i : Int) * B ≤ 400 * B := Int.mul_le_mul_of_nonneg_right (by omega) (by rw [B_eq]; omega)
    have hcell : ∀ s, s < j.secs.length → (-1 ≤ (valN j i)[s]! ∧ (valN j i)[s]! ≤ B + AS j (fun a => mx (valN j a)) i) := by
      intro s hs
      have hAS0 : 0 ≤ AS j (fun a => mx (valN j a)) i := S_nonneg _ (fun a ha => by split; exact hm0 a ha; exact Int.le_refl _)
      rw [valN_at hv hil hs]
      split
      · have hlv : ∀ a ∈ aboveF j i, lv j (valN j) j.secs[s]!.height a = -1 ∨ (0 ≤ lv j (valN j) j.secs[s]!.height a ∧ lv j (valN j) j.secs[s]!.height a ≤ mx (valN j a)) := fun a ha => lv_bd (h1 a (above_less hv ha))
        have hle : (∀ a ∈ aboveF j i, lv j (valN j) j.secs[s]!.height a ≠ -1) → ((aboveF j i).map (lv j (valN j) j.secs[s]!.height)).sum ≤ AS j (fun a => mx (valN j a)) i := fun hne => by
          rw [← hsum]
          exact list_sum_le (fun a ha => ((hlv a ha).resolve_left (hne a ha)).2)
        have hnn : (∀ a ∈ aboveF j i, lv j (valN j) j.secs[s]!.height a ≠ -1) → 0 ≤ ((aboveF j i).map (lv j (valN j) j.secs[s]!.height)).sum := fun hne => by
          exact list_sum_nn (fun a ha => ((hlv a ha).resolve_left (hne a ha)).1)
        obtain ⟨o1, o2⟩ := ownC_bd hv hil hs
        rw [B_eq] at *
        rcases costF_eq hv hil hs (fun a ha => (hlv a ha).imp id (fun h => h.1)) (fun hne => by have := hle hne; omega) with ⟨_, h4⟩ | ⟨hne, h4⟩
        · rw [h4]; omega
        · rw [h4]
          have := hle hne
          have := hnn hne
          omega
      · rw [B_eq]; omega
    have hrow : ∀ x ∈ valN j i, ∃ s, s < j.secs.length ∧ x = (valN j i)[s]! := fun x hx => by
      obtain ⟨s, hs, rfl⟩ := List.mem_iff_getElem.1 hx
      exact ⟨s, by rw [valN_len hil] at hs; exact hs, by rw [getElem!_pos _ s hs]⟩
    constructor
    · intro a ha x hx
      rcases Nat.lt_succ_iff_lt_or_eq.1 ha with h | rfl
      · exact h1 a h x hx
      · obtain ⟨s, hs, rfl⟩ := hrow x hx
        exact (hcell s hs).1
    · have h5 := FS_step hv (fun a => mx (valN j a)) hil
      have hAS0 : 0 ≤ AS j (fun a => mx (valN j a)) i := S_nonneg _ (fun a ha => by split; exact hm0 a ha; exact Int.le_refl _)
      have h6 : mx (valN j i) ≤ B + AS j (fun a => mx (valN j a)) i := mx_bd (by rw [B_eq]; omega) (fun x hx => by
        obtain ⟨s, hs, rfl⟩ := hrow x hx
        exact (hcell s hs).2)
      rw [B_eq] at *
      push_cast
      omega
end Go.Gv
namespace Go.Gv
/-- The job's values, as they are handed over. -/
def valsS (j : Job) : List SlI := (List.range j.below.l.length).map fun a => ⟨false, valN j a⟩
theorem valsS_at {j : Job} {a : Nat} (h : a < j.below.l.length) : rowsF (valsS j) a = valN j a := by
  unfold rowsF valsS
  rw [getElem!_pos _ a (by simpa using h)]
  simp

/-- What is known of the values of a valid job. -/
theorem vals_cell {j : Job} (hv : jobValid j = true) {i : Nat} (hi : i < j.below.l.length) : ∀ x ∈ valN j i, -1 ≤ x := (vals_bd hv (i + 1) (by omega)).1 i (by omega)
theorem vals_mx {j : Job} (hv : jobValid j = true) {i : Nat} (hi : i < j.below.l.length) : mx (valN j i) ≤ j.below.l.length * B := by
  have h1 := (vals_bd hv (i + 1) (by omega)).2
  have h2 : mx (valN j i) ≤ FS j (fun a => mx (valN j a)) (i + 1) := by
    have h3 := FS_step hv (fun a => mx (valN j a)) hi
    have h4 := AS_le_FS (j := j) (i := i) (f := fun a => mx (valN j a)) (fun a _ => (mx_spec (valN j a) 0).1)
    omega
  have h5 : ((i + 1 : Nat) : Int) * B ≤ j.below.l.length * B := Int.mul_le_mul_of_nonneg_right (by omega) (by rw [B_eq]; omega)
  omega
theorem lvN_bd {j : Job} (hv : jobValid j = true) {h : Int} {a : Nat} (ha : a < j.below.l.length) : lv j (valN j) h a = -1 ∨ (0 ≤ lv j (valN j) h a ∧ lv j (valN j) h a ≤ mx (valN j a)) := lv_bd (vals_cell hv ha)
theorem sum_above_bd {j : Job} (hv : jobValid j = true) {h : Int} {i : Nat} (hi : i < j.below.l.length) (hne : ∀ a ∈ aboveF j i, lv j (valN j) h a ≠ -1) : ((aboveF j i).map (lv j (valN j) h)).sum ≤ 7205759403792793600 := by
  have h1 := list_sum_le (fun a ha => ((lvN_bd hv (above_lt ha)).resolve_left (hne a ha)).2)
  rw [above_sum hv (fun a => mx (valN j a)) hi] at h1
  have h2 := AS_le_FS (j := j) (i := i) (f := fun a => mx (valN j a)) (fun a _ => (mx_spec (valN j a) 0).1)
  have h3 := (vals_bd hv i (by omega)).2
  have hn := (valid_facts hv).1
  have h4 : (i : Int) * B ≤ 400 * B := Int.mul_le_mul_of_nonneg_right (by omega) (by rw [B_eq]; omega)
  rw [B_eq] at h4 h3
  omega
/-- A value of a job. -/
theorem valN_eq' {j : Job} (hv : jobValid j = true) {i s : Nat} (hi : i < j.below.l.length) (hs : s < j.secs.length) (hp : possAt j i s = true) :
    ((∃ a ∈ aboveF j i, lv j (valN j) j.secs[s]!.height a = -1) ∧ (valN j i)[s]! = -1) ∨ ((∀ a ∈ aboveF j i, lv j (valN j) j.secs[s]!.height a ≠ -1) ∧ (valN j i)[s]! = ownC j i s + ((aboveF j i).map (lv j (valN j) j.secs[s]!.height)).sum) := by
  rw [valN_at hv hi hs, if_pos hp]
  exact costF_eq hv hi hs (fun a ha => (lvN_bd hv (above_lt ha)).imp id (fun h => h.1)) (fun hne => by have := sum_above_bd hv hi hne; omega)
/-- The bound of a job's values. -/
theorem costB_eq {j : Job} (hv : jobValid j = true) : ((∃ a ∈ rootsF j, lv j (valN j) 4194304 a = -1) ∧ costB j = -1) ∨ ((∀ a ∈ rootsF j, lv j (valN j) 4194304 a ≠ -1) ∧ costB j = ((rootsF j).map (lv j (valN j) 4194304)).sum ∧ 0 ≤ costB j) := by
  unfold costB boundF
  by_cases hx : ∃ a ∈ rootsF j, lv j (valN j) 4194304 a = -1
  · obtain ⟨a, ha, h3⟩ := hx
    exact .inl ⟨⟨a, ha, h3⟩, by rw [sumG_bad ha h3]; rfl⟩
  · right
    have hx' : ∀ a ∈ rootsF j, lv j (valN j) 4194304 a ≠ -1 := fun a ha e => hx ⟨a, ha, e⟩
    have h1 : ∀ a ∈ rootsF j, 0 ≤ lv j (valN j) 4194304 a ∧ lv j (valN j) 4194304 a ≤ mx (valN j a) := fun a ha => (lvN_bd hv (root_mem ha).1).resolve_left (hx' a ha)
    have h2 := list_sum_le (fun a ha => (h1 a ha).2)
    rw [roots_sum hv (fun a => mx (valN j a))] at h2
    have h3 := (vals_bd hv _ (Nat.le_refl _)).2
    have hn := (valid_facts hv).1
    have h4 : (j.below.l.length : Int) * B ≤ 400 * B := Int.mul_le_mul_of_nonneg_right (by omega) (by rw [B_eq]; omega)
    rw [B_eq] at h4 h3
    refine ⟨hx', ?_⟩
    rw [sumG_eq hx' (fun a ha => (h1 a ha).1) (Int.le_refl _) (by omega)]
    simp only [Option.getD_some, Int.zero_add]
    exact ⟨trivial, list_sum_nn (fun a ha => (h1 a ha).1)⟩

/-- The values of a job that is not large pass. -/
theorem checked_own {j : Job} (hv : jobValid j = true) (hn : j.below.l.length ≤ 12) : checkedF j (valsS j) = (true, costB j, 0) := by
  have hlen : (valsS j).length = j.below.l.length := by simp [valsS]
  have hmem : ∀ x ∈ valsS j, ∃ a, a < j.below.l.length ∧ x.l = valN j a := fun x hx => by
    obtain ⟨a, ha, rfl⟩ := List.mem_map.1 hx
    exact ⟨a, by simpa using ha, rfl⟩
  have c1 : ∀ i s, i < j.below.l.length → s < j.secs.length → possAt j i s = true → costF j (rowsF (valsS j)) i s = (valN j i)[s]! := fun i s hi hs hp => by
    rw [valN_at hv hi hs, if_pos hp]
    exact costF_congr (fun a ha => valsS_at (above_lt ha))
  have hb : ∀ i, i < j.below.l.length → badP j (valsS j) i = false := fun i hi => by
    rw [badP, List.any_eq_false]
    intro s hs
    have hs : s < j.secs.length := by simpa using hs
    rw [badV]
    cases hp : possAt j i s with
    | false => simp
    | true =>
      rw [c1 i s hi hs hp, valsS_at hi]
      by_cases e : (valN j i)[s]! = -1
      · rw [e]; simp
      · simp only [Bool.true_and, Bool.or_eq_true, Bool.and_eq_true, decide_eq_true_eq, Bool.not_eq_true', decide_eq_false_iff_not, not_or, not_and]
        exact ⟨fun h => absurd h e, fun _ => ⟨e, by omega⟩⟩
  have hnone : (List.range j.below.l.length).find? (badP j (valsS j)) = none := by
    rw [List.find?_eq_none]
    intro k hk
    rw [hb k (by simpa using hk)]; simp
  have hB : boundF j (rowsF (valsS j)) = costB j := by
    unfold costB boundF
    rw [sumG_congr (v' := lv j (valN j) 4194304) (fun a ha => by rw [lv, lv, valsS_at (root_mem ha).1])]
  unfold checkedF
  rw [if_neg (by rw [hv]; simp), if_neg, if_neg, hnone, hB]
  · rw [Bool.not_eq_true, List.any_eq_false]
    intro x hx
    obtain ⟨a, ha, e⟩ := hmem x hx
    rw [e, Bool.not_eq_true, List.any_eq_false]
    intro y hy
    have h1 := vals_cell hv ha y hy
    have h2 := (mx_spec (valN j a) 0).2 y hy
    have h3 := vals_mx hv ha
    have h4 : (j.below.l.length : Int) * B ≤ 12 * B := Int.mul_le_mul_of_nonneg_right (by omega) (by rw [B_eq]; omega)
    have h5 : y ≤ mx (valN j a) := h2
    rw [B_eq] at h4 h3
    simp [wideV]
    omega
  · rintro (h | h)
    · exact h hlen
    · rw [List.any_eq_true] at h
      obtain ⟨x, hx, h⟩ := h
      obtain ⟨a, ha, e⟩ := hmem x hx
      rw [e, valN_len ha] at h
      simp at h

/-- Right values have no greater bound. -/
theorem checked_le {j : Job} (hv : jobValid j = true) (hn : j.below.l.length ≤ 12) {vals : List SlI} (hw : ∀ x ∈ vals, ∀ y ∈ x.l, y ≤ 288230376151711744) {n : Int} (hc : checkedF j vals = (true, n, 0)) (hB : costB j ≠ -1) : n ≤ costB j ∧ 0 ≤ n := by
  unfold checkedF at hc
  rw [if_neg (by rw [hv]; simp)] at hc
  split at hc
  · cases hc
  rename_i h1
  split at hc
  · cases hc
  rename_i h2
  have hlen : vals.length = j.below.l.length := Classical.byContradiction fun e => h1 (.inl e)
  have hrow : ∀ a, a < j.below.l.length → rowsF vals a = vals[a]!.l ∧ vals[a]! ∈ vals := fun a ha => ⟨rfl, by rw [getElem!_pos vals a (by omega)]; exact List.getElem_mem _⟩
  have hrl : ∀ a, a < j.below.l.length → (rowsF vals a).length = j.secs.length := fun a ha => Classical.byContradiction fun e => h1 (.inr (List.any_eq_true.2 ⟨_, (hrow a ha).2, by simpa [rowsF] using e⟩))
  have hcell : ∀ a, a < j.below.l.length → ∀ y ∈ rowsF vals a, -1 ≤ y ∧ y ≤ 288230376151711744 := fun a ha y hy => by
    refine ⟨?_, hw _ (hrow a ha).2 y hy⟩
    rw [Bool.not_eq_true, List.any_eq_false] at h2
    have := h2 _ (hrow a ha).2
    rw [Bool.not_eq_true, List.any_eq_false] at this
    have := this y hy
    simp [wideV] at this
    omega
  have hgood : ∀ i s, i < j.below.l.length → s < j.secs.length → badV j vals i s = false := fun i s hi hs => by
    cases hf : (List.range j.below.l.length).find? (badP j vals) with
    | some k => rw [hf] at hc; cases hc
    | none =>
      rw [List.find?_eq_none] at hf
      have := hf i (by simpa using hi)
      rw [Bool.not_eq_true, badP, List.any_eq_false] at this
      have := this s (by simpa using hs)
      simpa using this
  have hbn : boundF j (rowsF vals) = n := by
    cases hf : (List.range j.below.l.length).find? (badP j vals) with
    | some k => rw [hf] at hc; cases hc
    | none => rw [hf] at hc; simpa using hc
  have hlw : ∀ h a, a < j.below.l.length → lv j (rowsF vals) h a = -1 ∨ (0 ≤ lv j (rowsF vals) h a ∧ lv j (rowsF vals) h a ≤ 288230376151711744) := fun h a ha => by
    rcases lv_spec j (rowsF vals) h a with ⟨e, _⟩ | ⟨s, e1, e2, e3, _⟩
    · exact .inl e
    · right
      have := hcell a ha _ (get_mem e1)
      rw [e2]
      omega
  have cnt : ∀ (l : List Nat) (f : Nat → Int), (∀ a ∈ l, f a ≤ 288230376151711744) → (l.map f).sum ≤ l.length * 288230376151711744 := by
    intro l f
    induction l with
    | nil => intro _; simp
    | cons x l ih =>
      intro h
      simp only [List.map_cons, List.sum_cons, List.length_cons]
      have := h x (by simp)
      have := ih (fun a ha => h a (by simp [ha]))
      push_cast
      omega
  -- cell by cell
  have key : ∀ i, i < j.below.l.length → ∀ s, s < j.secs.length → possAt j i s = true → (valN j i)[s]! ≠ -1 → (rowsF vals i)[s]! ≠ -1 ∧ (rowsF vals i)[s]! ≤ (valN j i)[s]! := by
    intro i
    induction i using Nat.strongRecOn with
    | _ i ih =>
      intro hi s hs hp hne
      rcases valN_eq' hv hi hs hp with ⟨_, e⟩ | ⟨e1, e2⟩
      · exact absurd e hne
      have hl : ∀ a ∈ aboveF j i, lv j (rowsF vals) j.secs[s]!.height a ≠ -1 ∧ lv j (rowsF vals) j.secs[s]!.height a ≤ lv j (valN j) j.secs[s]!.height a := fun a ha => by
        have hal := above_lt ha
        rcases lv_spec j (valN j) j.secs[s]!.height a with ⟨f1, _⟩ | ⟨s', f1, f2, f3, f4, _⟩
        · exact absurd f1 (e1 a ha)
        · have hs' : s' < j.secs.length := by rw [valN_len hal] at f1; exact f1
          have hpos : possAt j a s' = true := by simp only [okF, Bool.and_eq_true] at f4; exact f4.1
          obtain ⟨g1, g2⟩ := ih a (above_less hv ha) hal s' hs' hpos f3
          rcases lv_spec j (rowsF vals) j.secs[s]!.height a with ⟨_, f5⟩ | ⟨s'', k1, k2, k3, k4, k5⟩
          · have := f5 s' (by rw [hrl a hal]; exact hs') g1
            rw [this] at f4; cases f4
          · have := k5 s' (by rw [hrl a hal]; exact hs') g1 f4
            rw [k2, f2]
            exact ⟨k3, by omega⟩
      have hle : (aboveF j i).length ≤ 12 := by have := above_len j i; omega
      have hsum := cnt (aboveF j i) (lv j (rowsF vals) j.secs[s]!.height) (fun a ha => ((hlw _ a (above_lt ha)).resolve_left (hl a ha).1).2)
      rcases costF_eq hv (val := rowsF vals) hi hs (fun a ha => (hlw _ a (above_lt ha)).imp id (fun h => h.1)) (fun _ => by omega) with ⟨⟨a, ha, f⟩, _⟩ | ⟨_, f⟩
      · exact absurd f (hl a ha).1
      have hg := hgood i s hi hs
      rw [badV, hp, f] at hg
      have ho := (ownC_bd hv hi hs).1
      have hnn : 0 ≤ ((aboveF j i).map (lv j (rowsF vals) j.secs[s]!.height)).sum := list_sum_nn (fun a ha => ((hlw _ a (above_lt ha)).resolve_left (hl a ha).1).1)
      have hne' : ¬ (ownC j i s + ((aboveF j i).map (lv j (rowsF vals) j.secs[s]!.height)).sum = -1) := by omega
      have hcmp := list_sum_le (fun a ha => (hl a ha).2)
      rw [show decide (ownC j i s + ((aboveF j i).map (lv j (rowsF vals) j.secs[s]!.height)).sum = -1) = false by simp only [decide_eq_false_iff_not]; exact hne'] at hg
      simp only [Bool.true_and, Bool.false_and, Bool.false_or, Bool.not_false, Bool.or_eq_false_iff, decide_eq_false_iff_not] at hg
      rw [e2]
      exact ⟨hg.1, by omega⟩
  rcases costB_eq hv with ⟨_, e⟩ | ⟨e1, e2, e3⟩
  · exact absurd e hB
  have hl : ∀ a ∈ rootsF j, lv j (rowsF vals) 4194304 a ≠ -1 ∧ lv j (rowsF vals) 4194304 a ≤ lv j (valN j) 4194304 a := fun a ha => by
    have hal := (root_mem ha).1
    rcases lv_spec j (valN j) 4194304 a with ⟨f1, _⟩ | ⟨s', f1, f2, f3, f4, _⟩
    · exact absurd f1 (e1 a ha)
    · have hs' : s' < j.secs.length := by rw [valN_len hal] at f1; exact f1
      have hpos : possAt j a s' = true := by simp only [okF, Bool.and_eq_true] at f4; exact f4.1
      obtain ⟨g1, g2⟩ := key a hal s' hs' hpos f3
      rcases lv_spec j (rowsF vals) 4194304 a with ⟨_, f5⟩ | ⟨s'', k1, k2, k3, k4, k5⟩
      · have := f5 s' (by rw [hrl a hal]; exact hs') g1
        rw [this] at f4; cases f4
      · have := k5 s' (by rw [hrl a hal]; exact hs') g1 f4
        rw [k2, f2]
        exact ⟨k3, by omega⟩
  have hle : (rootsF j).length ≤ 12 := by
    have := List.length_filter_le (fun a => decide (j.below.l[a]! = -1)) (List.range j.below.l.length)
    simp only [List.length_range] at this
    unfold rootsF
    omega
  have hsum := cnt (rootsF j) (lv j (rowsF vals) 4194304) (fun a ha => ((hlw _ a (root_mem ha).1).resolve_left (hl a ha).1).2)
  have hnn := list_sum_nn (fun a ha => ((hlw 4194304 a (root_mem ha).1).resolve_left (hl a ha).1).1)
  have hcmp := list_sum_le (fun a ha => (hl a ha).2)
  rw [← hbn, boundF, sumG_eq (fun a ha => (hl a ha).1) (fun a ha => ((hlw _ a (root_mem ha).1).resolve_left (hl a ha).1).1) (Int.le_refl _) (by omega)]
  simp only [Option.getD_some, Int.zero_add]
  omega
end Go.Gv

set_option linter.unusedSimpArgs false
namespace Go.Gv

def bigV (v : Int) : Bool := decide (288230376151711744 < v)
def bigR (x : SlI) : Bool := decide (12 < x.l.length) || x.l.any bigV

theorem valsS_D (j : Job) : valsD j = slx false ((valsS j).map fun x => [slI x]) := by
  rw [valsD_eq]
  simp [valsS, slR_eq]
variable {C : CC} (hC : Closed prog C)
include hC
theorem bigV_c (v : Int) : C 117 [.int .i64 v] (.bool (bigV v)) [] := by
  refine start hC (nf := N117_law47_SizingBounds_1_1) rfl rfl ?_
  simp [N117_law47_SizingBounds_1_1, bigV]
theorem bigR_c (x : SlI) : C 116 [slI x] (.bool (bigR x)) [] := by
  refine start hC (nf := N116_law47_SizingBounds_1) rfl rfl ?_
  simp [N116_law47_SizingBounds_1]
  refine brB_of (fun h => ?_) (fun h => ?_) <;> simp at h <;> simp [h]
  · simp [bigR]; omega
  · refine callW_of (hasInt_c hC (xs := x.l) bigV (by omega) (fun v _ => bigV_c hC v)) (.inl rfl) ?_
    have e : ¬ 12 < x.l.length := by omega
    simp [bigR, e]
set_option maxRecDepth 2000 in
set_option maxHeartbeats 2000000 in
theorem SizingBounds_c (j : Job) (b : Bool) (vals : List SlI) (hll : ∀ x ∈ vals, x.l.length < 2 ^ 62) (hl : vals.length < 2 ^ 62) : C 114 [.agg (jobC j), slx b (vals.map fun x => [slI x])] (.bool true) [] := by
  refine start hC (nf := N114_law47_SizingBounds) rfl rfl ?_
  simp [N114_law47_SizingBounds]
  refine callW_of (awake_c hC) (.inl rfl) ?_
  have hlg := large_c hC j
  have hs := Solve_c hC j
  have hb := Bound_c hC j
  have hc1 := Checked_c hC j false (valsS j)
  have hc2 := Checked_c hC j b vals hl hll
  simp [jobC_eq]
  simp [jobC_eq] at hlg hs hb hc2
  refine callW_of hlg (.inl rfl) ?_
  cases h1 : largeF j
  case true => simp
  simp
  refine brB_of (fun h2 => ?_) (fun h2 => ?_) <;> simp at h2 <;> simp [h2]
  have hr := hasSlI_c hC (b := b) (xs := vals) (g := 116) (cs := []) bigR hl (fun x _ => bigR_c hC x)
  simp at hr
  refine callW_of hr (.inl rfl) ?_
  cases h3 : vals.any bigR
  case true => simp
  simp
  refine callW_of hs (.inr rfl) ?_
  simp [intsD]
  refine callW_of hb (.inr rfl) ?_
  have hn : j.below.l.length ≤ 12 := by
    simp only [largeF, Bool.or_eq_false_iff, decide_eq_false_iff_not] at h1
    omega
  cases hv : jobValid j
  · simp [solveF, hv]
  simp
  have hc1 := Checked_c hC j false (valsS j) (by simp [valsS]; omega) (fun x hx => by
    obtain ⟨a, ha, rfl⟩ := List.mem_map.1 hx
    have hm := (valid_facts hv).2.2
    simp only
    rw [valN_len (by simpa using ha)]
    omega)
  rw [← valsS_D, checked_own hv hn] at hc1
  simp [jobC_eq] at hc1
  refine callW_of hc1 (.inl rfl) ?_
  have hlaw := fun n => checked_le (j := j) hv hn (vals := vals) (n := n) (fun x hx y hy => by
    rw [List.any_eq_false] at h3
    have := h3 x hx
    rw [Bool.not_eq_true, bigR, Bool.or_eq_false_iff, List.any_eq_false] at this
    have := this.2 y hy
    simp [bigV] at this
    omega)
  obtain ⟨r, hr⟩ : ∃ r, r = checkedF j vals := ⟨_, rfl⟩
  rw [← hr] at hc2 hlaw
  obtain ⟨ok, n, g⟩ := r
  have hB : costB j = -1 ∨ costB j ≠ -1 := by omega
  by_cases hB : costB j = -1
  · simp [solveF, hv, hB]
    refine callW_of hc2 (.inl rfl) ?_
    simp
    refine brB_of (fun d1 => ?_) (fun d1 => ?_) <;> simp at d1 <;> simp [d1]
    cases ok <;> simp
  · simp [solveF, hv, hB]
    refine callW_of hc2 (.inl rfl) ?_
    simp
    refine brB_of (fun d1 => ?_) (fun d1 => ?_) <;> simp at d1 <;> simp [d1]
    cases ok
    · simp
    · simp
      obtain ⟨l1, l2⟩ := hlaw n (by rw [d1]) hB
      simp [l1, l2]
end Go.Gv

set_option linter.unusedSimpArgs false
namespace Go.Gv

def outS1 (j : Job) (s : Int) : Bool := decide (s < 0) || decide ((j.secs.length : Int) ≤ s)
def choiceF (j : Job) (ch : List Int) : Int := if jobValid j = false then 1 else if ch.length ≠ j.below.l.length then 3 else if ch.any (outS1 j) = true then 2 else 0
def secAt (j : Job) (ch : List Int) (i : Nat) : Nat := (ch[i]!).toNat
def upper (j : Job) (ch : List Int) (i : Nat) (a : Nat) : Bool := decide (j.secs[secAt j ch i]!.height < j.secs[secAt j ch a]!.height)
def badA (j : Job) (ch : List Int) (i : Nat) : Bool := !possAt j i (secAt j ch i) || (aboveF j i).any (upper j ch i)
def allowedF (j : Job) (ch : List Int) : Bool × Int × Int := if choiceF j ch ≠ 0 then (false, 0, choiceF j ch) else
  match (List.range j.below.l.length).find? (badA j ch) with
  | some i => (false, i, 0)
  | none => (true, -1, 0)
def costC (j : Job) (ch : List Int) : Int := S (fun i => ownC j i (secAt j ch i)) j.below.l.length
def costF2 (j : Job) (ch : List Int) : Int × Int := if choiceF j ch ≠ 0 then (0, choiceF j ch) else (costC j ch, 0)

/-- What a right choice is. -/
theorem choice_ok {j : Job} {ch : List Int} (h : choiceF j ch = 0) : jobValid j = true ∧ ch.length = j.below.l.length ∧ ∀ i, i < j.below.l.length → ∃ s : Nat, ch[i]! = s ∧ s < j.secs.length ∧ secAt j ch i = s := by
  unfold choiceF at h
  split at h
  · cases h
  rename_i h1
  split at h
  · cases h
  rename_i h2
  split at h
  · cases h
  rename_i h3
  have hl : ch.length = j.below.l.length := Classical.byContradiction fun e => h2 e
  refine ⟨by simpa using h1, hl, fun i hi => ?_⟩
  rw [Bool.not_eq_true, List.any_eq_false] at h3
  have h4 := h3 ch[i]! (by rw [getElem!_pos ch i (by omega)]; exact List.getElem_mem _)
  simp only [outS1, Bool.or_eq_true, decide_eq_true_eq, not_or] at h4
  exact ⟨(ch[i]!).toNat, by omega, by omega, rfl⟩

variable {C : CC} (hC : Closed prog C)
include hC
theorem outS1_c (j : Job) (s : Int) : C 122 [.int .i64 s, .ptr (jobC j)] (.bool (outS1 j s)) [] := by
  refine start hC (nf := N122_sizing_choice_1) rfl rfl ?_
  simp [N122_sizing_choice_1, jobC_eq]
  refine brB_of (fun h => ?_) (fun h => ?_) <;> simp at h <;> simp [h, outS1]
  omega
theorem choice_c (j : Job) (b : Bool) (ch : List Int) (hl : ch.length < 2 ^ 62) : C 120 [.agg (jobC j), slx b (ch.map fun n => [.int .i64 n])] (.int .i64 (choiceF j ch)) [] := by
  refine start hC (nf := N120_sizing_choice) rfl rfl ?_
  simp [N120_sizing_choice]
  have hv := Valid_c hC j
  have hh := hasInt_c hC (b := b) (xs := ch) (g := 122) (cs := [.ptr (jobC j)]) (outS1 j) hl (fun s _ => outS1_c hC j s)
  simp [jobC_eq]
  simp [jobC_eq] at hv hh
  refine callW_of hv (.inl rfl) ?_
  cases h : jobValid j
  · simp [choiceF, h]
  simp
  refine brB_of (fun h1 => ?_) (fun h1 => ?_) <;> simp at h1 <;> simp [h1]
  · rw [choiceF, if_neg (by rw [h]; simp), if_pos (by omega)]
  refine callW_of hh (.inl rfl) ?_
  cases h2 : ch.any (outS1 j)
  · simp [choiceF, h, h2]; omega
  · simp [choiceF, h, h2]; omega
theorem upper_c (j : Job) (b : Bool) (ch : List Int) (a i : Nat) (hc : choiceF j ch = 0) (ha : a < j.below.l.length) (hi : i < j.below.l.length) : C 121 [.int .i64 a, .ptr (jobC j), .ptr [slx b (ch.map fun n => [.int .i64 n])], .ptr [.int .i64 ch[i]!]] (.bool (upper j ch i a)) [] := by
  obtain ⟨hv, hl, hs⟩ := choice_ok hc
  obtain ⟨s, e1, e2, e3⟩ := hs i hi
  obtain ⟨t, f1, f2, f3⟩ := hs a ha
  rw [getElem!_pos ch a (by omega)] at f1
  have hal : a < ch.length := by omega
  refine start hC (nf := N121_sizing_Allowed_1) rfl rfl ?_
  rw [e1, upper, e3, f3, getElem!_pos j.secs s e2, getElem!_pos j.secs t f2]
  simp [N121_sizing_Allowed_1, jobC_eq, hal, f1, f2, e2, secC_eq]
  exact indW_of (by decide +kernel)
end Go.Gv

set_option linter.unusedSimpArgs false
namespace Go.Gv

theorem allowed_none {j : Job} {ch : List Int} (hc : choiceF j ch = 0) (h : ∀ k, k < j.below.l.length → badA j ch k = false) : allowedF j ch = (true, -1, 0) := by
  unfold allowedF
  rw [if_neg (by rw [hc]; simp)]
  have : (List.range j.below.l.length).find? (badA j ch) = none := by
    rw [List.find?_eq_none]
    intro k hk
    rw [List.mem_range] at hk
    rw [h k hk]; simp
  rw [this]
theorem allowed_some {j : Job} {ch : List Int} {i : Nat} (hc : choiceF j ch = 0) (hi : i < j.below.l.length) (h : ∀ k, k < i → badA j ch k = false) (hb : badA j ch i = true) : allowedF j ch = (false, (i : Int), 0) := by
  unfold allowedF
  rw [if_neg (by rw [hc]; simp)]
  have : (List.range j.below.l.length).find? (badA j ch) = some i := by
    rw [List.find?_eq_some_iff_getElem]
    refine ⟨hb, i, by simpa using hi, by simp, fun k hk => ?_⟩
    simp [h k hk]
  rw [this]
theorem S_bd {g : Nat → Int} {b : Int} : ∀ n, (∀ a, a < n → 0 ≤ g a ∧ g a ≤ b) → 0 ≤ S g n ∧ S g n ≤ n * b
  | 0, _ => by simp [S]
  | n + 1, h => by
    have h1 := S_bd n (fun a ha => h a (by omega))
    have h2 := h n (by omega)
    simp only [S]
    have e : ((n + 1 : Nat) : Int) * b = n * b + b := by rw [Int.natCast_add, Int.add_mul]; simp
    rw [e]; omega
variable {C : CC} (hC : Closed prog C)
include hC
set_option maxHeartbeats 2000000 in
theorem Allowed_c (j : Job) (b : Bool) (ch : List Int) (hl : ch.length < 2 ^ 62) : C 118 [.agg (jobC j), slx b (ch.map fun n => [.int .i64 n])] (.tup [.bool (allowedF j ch).1, .int .i64 (allowedF j ch).2.1, .int .i64 (allowedF j ch).2.2]) [] := by
  refine start hC (nf := N118_sizing_Allowed) rfl rfl ?_
  simp [N118_sizing_Allowed]
  have hcc := choice_c hC j b ch hl
  have ht := fun hv => treeOf_c hC j hv
  simp [jobC_eq]
  simp [jobC_eq] at hcc ht
  refine callW_of hcc (.inl rfl) ?_
  simp
  refine brB_of (fun h => ?_) (fun h => ?_) <;> simp at h <;> simp [h]
  case' refine_1 => simp [allowedF, h]
  obtain ⟨hv, hlen, hs⟩ := choice_ok h
  refine callW_of (ht hv) (.inr rfl) ?_
  simp
  refine loop_of Nat (fun i => [(2, .ptr (jobC j)), (3, .ptr [slx b (ch.map fun n => [.int .i64 n])]), (8, treeD j), (20, slx b (ch.map fun n => [.int .i64 n])), (21, .int .i64 ch.length), (22, .int .i64 i)])
    (fun i => i ≤ ch.length ∧ ∀ k, k < i → badA j ch k = false) (fun i => ch.length - i) 0 (by simp) (by simp [jobC_eq]) ?_
  rintro i ⟨hi, hok⟩
  simp
  refine brB_of (fun h1 => ?_) (fun h1 => ?_) <;> simp at h1 <;> simp [h1]
  · have hi' : i < j.below.l.length := by omega
    have hu := fun a ha => upper_c hC j b ch a i h ha hi'
    simp [h1, treeD_eq, jobC_eq, aboveD, hi']
    have hci : i < ch.length := h1
    have hh : C 11 [.sl ((aboveF j i).map it), .fn 121 [.ptr (jobC j), .ptr [slx b (ch.map fun n => [.int .i64 n])], .ptr [.int .i64 ch[i]!]]] (.bool ((aboveF j i).any (upper j ch i))) [] := by
      have hh := hasInt_c hC (b := false) (xs := (aboveF j i).map fun a => ((a : Nat) : Int)) (g := 121) (cs := [.ptr (jobC j), .ptr [slx b (ch.map fun n => [.int .i64 n])], .ptr [.int .i64 ch[i]!]]) (fun a => upper j ch i a.toNat) (by
        have := above_len j i
        simp; omega) (fun x hx => by
          obtain ⟨a, ha, rfl⟩ := List.mem_map.1 hx
          exact hu a (above_lt ha))
      rw [slx_false, List.map_map, List.any_map] at hh
      exact hh
    rw [getElem!_pos ch i hci] at hh
    simp only [jobC_eq, slI_slx] at hh
    obtain ⟨s, e1, e2, e3⟩ := hs i hi'
    have hw : IntKind.wrap .i64 ((i : Int) + 1) = ((i + 1 : Nat) : Int) := wrap_i64 (by omega) (by omega)
    refine callW_of hh (.inl rfl) ?_
    rw [getElem!_pos ch i hci] at e1
    have hbad : badA j ch i = (!possAt j i s || (aboveF j i).any (upper j ch i)) := by rw [badA, e3]
    have done : badA j ch i = true → allowedF j ch = (false, (i : Int), 0) := fun hb => allowed_some h hi' hok hb
    have next : badA j ch i = false → ∀ k, k < i + 1 → badA j ch k = false := fun hb k hk => by
      rcases Nat.lt_succ_iff_lt_or_eq.1 hk with h5 | rfl
      · exact hok k h5
      · exact hb
    rw [hbad] at done next
    cases hp : possAt j i s
    · simp [h1, treeD_eq, jobC_eq, possD, hi', e1, e2, bl, hp]
      refine ⟨indW_of (by decide +kernel), ?_⟩
      simp [done (by simp [hp])]
    · simp [h1, treeD_eq, jobC_eq, possD, hi', e1, e2, bl, hp]
      refine ⟨indW_of (by decide +kernel), ?_⟩
      cases hb : (aboveF j i).any (upper j ch i)
      · simp [hw]
        exact ⟨i + 1, ⟨by omega, next (by rw [hb, hp]; rfl)⟩, by omega, by simp [treeD_eq, jobC_eq]⟩
      · simp [done (by rw [hb, hp]; rfl)]
  · rw [allowed_none h (fun k hk => hok k (by omega))]
    simp
set_option maxHeartbeats 2000000 in
theorem Cost_c (j : Job) (b : Bool) (ch : List Int) (hl : ch.length < 2 ^ 62) : C 119 [.agg (jobC j), slx b (ch.map fun n => [.int .i64 n])] (.tup [.int .i64 (costF2 j ch).1, .int .i64 (costF2 j ch).2]) [] := by
  refine start hC (nf := N119_sizing_Cost) rfl rfl ?_
  simp [N119_sizing_Cost]
  have hcc := choice_c hC j b ch hl
  simp [jobC_eq]
  simp [jobC_eq] at hcc
  refine callW_of hcc (.inl rfl) ?_
  simp
  refine brB_of (fun h => ?_) (fun h => ?_) <;> simp at h <;> simp [h]
  case' refine_1 => simp [costF2, h]
  obtain ⟨hv, hlen, hs⟩ := choice_ok h
  have hf := valid_facts hv
  have hcost : costF2 j ch = (costC j ch, 0) := by rw [costF2, if_neg (by rw [h]; simp)]
  have hbd := fun i hi => ownC_bd (i := i) (s := secAt j ch i) hv hi (by obtain ⟨s, _, e2, e3⟩ := hs i hi; omega)
  rw [hcost]
  refine loop_of Nat (fun i => [(2, .ptr (jobC j)), (7, .int .i64 (S (fun i => ownC j i (secAt j ch i)) i)), (16, slx b (ch.map fun n => [.int .i64 n])), (17, .int .i64 ch.length), (18, .int .i64 i)])
    (fun i => i ≤ ch.length) (fun i => ch.length - i) 0 (by simp) (by simp [jobC_eq, S]) ?_
  rintro i hi
  simp
  refine brB_of (fun h1 => ?_) (fun h1 => ?_) <;> simp at h1 <;> simp [h1]
  · have hi' : i < j.below.l.length := by omega
    have hi2 : i < j.lengths.l.length := by omega
    obtain ⟨s, e1, e2, e3⟩ := hs i hi'
    rw [getElem!_pos ch i h1] at e1
    have hw : IntKind.wrap .i64 ((i : Int) + 1) = ((i + 1 : Nat) : Int) := wrap_i64 (by omega) (by omega)
    have hown := hbd i hi'
    have hsum := S_bd (g := fun i => ownC j i (secAt j ch i)) (b := B) i (fun a ha => hbd a (by omega))
    have hB2 : (i : Int) * B ≤ 400 * B := Int.mul_le_mul_of_nonneg_right (by omega) (by rw [B_eq]; omega)
    rw [B_eq] at hsum hown hB2
    rw [e3] at hown
    have eo : ownC j i s = j.lengths.l[i] * j.secs[s].price := by rw [ownC, getElem!_pos _ i hi2, getElem!_pos _ s e2]
    have hw1 : IntKind.wrap .i64 (j.lengths.l[i] * j.secs[s].price) = ownC j i s := by rw [← eo]; exact wrap_i64 rfl (by omega)
    have hw2 : IntKind.wrap .i64 (S (fun i => ownC j i (secAt j ch i)) i + ownC j i s) = S (fun i => ownC j i (secAt j ch i)) (i + 1) := by
      simp only [S, e3]
      exact wrap_i64 rfl (by omega)
    simp [h1, jobC_eq, hi2, e1, e2, secC_eq, hw1, hw2]
    refine ⟨indW_of (by decide +kernel), ?_⟩
    simp [hw]
    exact ⟨i + 1, by omega, by omega, by simp [jobC_eq]⟩
  · have : i = j.below.l.length := by omega
    subst this
    simp [costC]
end Go.Gv

set_option linter.unusedSimpArgs false
namespace Go.Gv

theorem bestF_at {j : Job} {i : Nat} (hi : i < j.below.l.length) : (bestF j)[i]! = chUp j j.below.l.length i := by
  rw [getElem!_pos _ i (by simpa [bestF] using hi)]
  simp [bestF]
theorem okF_iff {j : Job} {a s : Nat} {h : Int} : okF j a h s = true ↔ possAt j a s = true ∧ j.secs[s]!.height ≤ h := by
  simp [okF]
theorem above_mem {j : Job} {i a : Nat} (h : a ∈ aboveF j i) : j.below.l[a]! = (i : Int) := by
  simp only [aboveF, List.mem_filter, List.mem_range, decide_eq_true_eq] at h
  exact h.2

theorem best_ok {j : Job} (hv : jobValid j = true) (hc : costB j ≠ -1) : allowedF j (bestF j) = (true, -1, 0) ∧ costF2 j (bestF j) = (costB j, 0) := by
  have hG := fun i hi => (good_up hv hc j.below.l.length (Nat.le_refl _) i hi (by omega)).sec
  obtain ⟨ch, hch⟩ : ∃ ch, ch = chUp j j.below.l.length := ⟨_, rfl⟩
  rw [← hch] at hG
  have hat : ∀ i, i < j.below.l.length → (bestF j)[i]! = ch i := fun i hi => by rw [bestF_at hi, hch]
  have hlen : (bestF j).length = j.below.l.length := by simp [bestF]
  have hsec : ∀ i s, i < j.below.l.length → ch i = ((s : Nat) : Int) → secAt j (bestF j) i = s := fun i s hi e => by rw [secAt, hat i hi, e]; rfl
  have h0 : choiceF j (bestF j) = 0 := by
    rw [choiceF, if_neg (by rw [hv]; simp), if_neg (by omega), if_neg]
    rw [Bool.not_eq_true, List.any_eq_false]
    intro x hx
    obtain ⟨i, hi, rfl⟩ := List.getElem_of_mem hx
    obtain ⟨s, e1, e2, _⟩ := hG i (by omega)
    have := hat i (by omega)
    rw [getElem!_pos _ i hi, e1] at this
    rw [this]
    simp [outS1]
    omega
  have hh : ∀ i a s, i < j.below.l.length → ch i = ((s : Nat) : Int) → a ∈ aboveF j i → hgt j ch a = j.secs[s]!.height := fun i a s hi e ha => by
    have := above_mem ha
    rw [hgt, if_neg (by omega), this]
    simp [e]
  refine ⟨allowed_none h0 (fun i hi => ?_), ?_⟩
  · obtain ⟨s, e1, e2, e3, e4, e5⟩ := hG i hi
    rw [badA, hsec i s hi e1, (okF_iff.1 e4).1, Bool.not_true, Bool.false_or, List.any_eq_false]
    intro a ha
    have hal := above_lt ha
    obtain ⟨t, f1, f2, f3, f4, f5⟩ := hG a hal
    rw [upper, hsec i s hi e1, hsec a t hal f1, decide_eq_true_eq]
    have := (okF_iff.1 f4).2
    rw [hh i a s hi e1 ha] at this
    omega
  rw [costF2, if_neg (by rw [h0]; simp)]
  have hstep : ∀ i, i < j.below.l.length → lv j (valN j) (hgt j ch i) i = ownC j i (secAt j (bestF j) i) + AS j (fun a => lv j (valN j) (hgt j ch a) a) i := fun i hi => by
    obtain ⟨s, e1, e2, e3, e4, e5⟩ := hG i hi
    rw [hsec i s hi e1, e5]
    rcases valN_eq' hv hi e2 (okF_iff.1 e4).1 with ⟨_, f⟩ | ⟨_, f⟩
    · exact absurd f e3
    rw [f, ← above_sum hv _ hi]
    have : (aboveF j i).map (lv j (valN j) j.secs[s]!.height) = (aboveF j i).map (fun a => lv j (valN j) (hgt j ch a) a) := List.map_congr_left fun a ha => by rw [hh i a s hi e1 ha]
    rw [this]
  have hF : ∀ i, i ≤ j.below.l.length → FS j (fun a => lv j (valN j) (hgt j ch a) a) i = S (fun i => ownC j i (secAt j (bestF j) i)) i := by
    intro i
    induction i with
    | zero => intro _; simp [FS, S]
    | succ i ih =>
      intro hi
      have h1 := FS_step hv (fun a => lv j (valN j) (hgt j ch a) a) (i := i) (by omega)
      have h2 := hstep i (by omega)
      have h3 := ih (by omega)
      simp only [S]
      omega
  rcases costB_eq hv with ⟨_, e⟩ | ⟨e1, e2, e3⟩
  · exact absurd e hc
  have hr : (rootsF j).map (lv j (valN j) 4194304) = (rootsF j).map (fun a => lv j (valN j) (hgt j ch a) a) := List.map_congr_left fun a ha => by rw [hgt, if_pos (root_mem ha).2]
  rw [hr, roots_sum hv, hF _ (Nat.le_refl _)] at e2
  rw [e2, costC]

theorem room_le {j : Job} (hv : jobValid j = true) {i s : Nat} (hi : i < j.below.l.length) (hp : possAt j i s = true) : j.secs[s]!.height ≤ 4194304 := by
  have h1 : j.room.l[i]! ≤ 4194304 := by
    simp only [jobValid, Bool.and_eq_true, List.all_eq_true, List.mem_range] at hv
    have := hv.2 i hi
    simp only [pipeOk, inR, Bool.and_eq_true, decide_eq_true_eq] at this
    omega
  simp only [possAt, Bool.and_eq_true, decide_eq_true_eq] at hp
  omega

theorem best_le {j : Job} {ch : List Int} (h0 : choiceF j ch = 0) (ha : (allowedF j ch).1 = true) : costB j ≠ -1 ∧ costB j ≤ costC j ch := by
  obtain ⟨hv, hlen, hs⟩ := choice_ok h0
  have hbad : ∀ i, i < j.below.l.length → badA j ch i = false := fun i hi => by
    unfold allowedF at ha
    rw [if_neg (by rw [h0]; simp)] at ha
    cases hf : (List.range j.below.l.length).find? (badA j ch) with
    | some k => rw [hf] at ha; cases ha
    | none =>
      rw [List.find?_eq_none] at hf
      simpa using hf i (by simpa using hi)
  have hsl : ∀ i, i < j.below.l.length → secAt j ch i < j.secs.length := fun i hi => by obtain ⟨s, _, e2, e3⟩ := hs i hi; omega
  have hpos : ∀ i, i < j.below.l.length → possAt j i (secAt j ch i) = true := fun i hi => by
    have := hbad i hi
    rw [badA, Bool.or_eq_false_iff] at this
    simpa using this.1
  have hle : ∀ i a, i < j.below.l.length → a ∈ aboveF j i → okF j a j.secs[secAt j ch i]!.height (secAt j ch a) = true := fun i a hi ha => by
    refine okF_iff.2 ⟨hpos a (above_lt ha), ?_⟩
    have := hbad i hi
    rw [badA, Bool.or_eq_false_iff, List.any_eq_false] at this
    have := this.2 a ha
    rw [upper, decide_eq_true_eq] at this
    omega
  have hlv : ∀ a h, a < j.below.l.length → (valN j a)[secAt j ch a]! ≠ -1 → okF j a h (secAt j ch a) = true → lv j (valN j) h a ≠ -1 ∧ lv j (valN j) h a ≤ (valN j a)[secAt j ch a]! := fun a h hal hne hok => by
    have hl : secAt j ch a < (valN j a).length := by rw [valN_len hal]; exact hsl a hal
    rcases lv_spec j (valN j) h a with ⟨_, f⟩ | ⟨s, f1, f2, f3, f4, f5⟩
    · rw [f _ hl hne] at hok; cases hok
    · have := f5 _ hl hne hok
      rw [f2]
      exact ⟨f3, this⟩
  have key : ∀ i, i < j.below.l.length → (valN j i)[secAt j ch i]! ≠ -1 ∧ (valN j i)[secAt j ch i]! ≤ ownC j i (secAt j ch i) + AS j (fun a => (valN j a)[secAt j ch a]!) i := by
    intro i
    induction i using Nat.strongRecOn with
    | _ i ih =>
      intro hi
      have hl : ∀ a ∈ aboveF j i, lv j (valN j) j.secs[secAt j ch i]!.height a ≠ -1 ∧ lv j (valN j) j.secs[secAt j ch i]!.height a ≤ (valN j a)[secAt j ch a]! := fun a ha =>
        hlv a _ (above_lt ha) (ih a (above_less hv ha) (above_lt ha)).1 (hle i a hi ha)
      rcases valN_eq' hv hi (hsl i hi) (hpos i hi) with ⟨⟨a, ha, f⟩, _⟩ | ⟨f1, f2⟩
      · exact absurd f (hl a ha).1
      have h1 := (ownC_bd hv hi (hsl i hi)).1
      have h2 := list_sum_le (fun a ha => (hl a ha).2)
      have h3 : 0 ≤ ((aboveF j i).map (lv j (valN j) j.secs[secAt j ch i]!.height)).sum := list_sum_nn (fun a ha => ((lvN_bd hv (above_lt ha)).resolve_left (hl a ha).1).1)
      rw [above_sum hv (fun a => (valN j a)[secAt j ch a]!) hi] at h2
      rw [f2]
      omega
  have hF : ∀ i, i ≤ j.below.l.length → FS j (fun a => (valN j a)[secAt j ch a]!) i ≤ S (fun i => ownC j i (secAt j ch i)) i := by
    intro i
    induction i with
    | zero => intro _; simp [FS, S]
    | succ i ih =>
      intro hi
      have h1 := FS_step hv (fun a => (valN j a)[secAt j ch a]!) (i := i) (by omega)
      have h2 := (key i (by omega)).2
      have h3 := ih (by omega)
      simp only [S]
      omega
  have hr : ∀ a ∈ rootsF j, lv j (valN j) 4194304 a ≠ -1 ∧ lv j (valN j) 4194304 a ≤ (valN j a)[secAt j ch a]! := fun a ha =>
    hlv a _ (root_mem ha).1 (key a (root_mem ha).1).1 (okF_iff.2 ⟨hpos a (root_mem ha).1, room_le hv (root_mem ha).1 (hpos a (root_mem ha).1)⟩)
  rcases costB_eq hv with ⟨⟨a, ha, e⟩, _⟩ | ⟨e1, e2, e3⟩
  · exact absurd e (hr a ha).1
  have h1 := list_sum_le (fun a ha => (hr a ha).2)
  rw [roots_sum hv (fun a => (valN j a)[secAt j ch a]!)] at h1
  have h2 := hF _ (Nat.le_refl _)
  rw [costC]
  omega
end Go.Gv

set_option linter.unusedSimpArgs false
namespace Go.Gv

def pw (s i : Nat) : Nat := s ^ i
def dv (s k i : Nat) : Nat := k / pw s i
def dig (s k i : Nat) : Int := ((dv s k i % s : Nat) : Int)
def chK (m s k : Nat) : List Int := (List.range m).map (dig s k)
theorem dv_zero {s k : Nat} : dv s k 0 = k := by simp [dv, pw]
theorem dv_succ {s k i : Nat} : dv s k i / s = dv s k (i + 1) := by
  rw [dv, dv, Nat.div_div_eq_div_mul]
  rfl
theorem dv_le {s k i : Nat} : dv s k i ≤ k := Nat.div_le_self ..
/-- The choice as it is after i pipes. -/
def chB (m s k i : Nat) : D := .blk 1 ((List.range m).map fun a => [.int .i64 (if a < i then dig s k a else 0)])
theorem chB_eq {m s k i} : chB m s k i = .blk 1 ((List.range m).map fun a => [.int .i64 (if a < i then dig s k a else 0)]) := _root_.id rfl
@[simp] theorem kill1_chB {ks m s k i} : kill1 ks (chB m s k i) = chB m s k i := by unfold chB; exact kill1_blk
@[simp] theorem isB_chB {m s k i} : isB (chB m s k i) = true := _root_.id rfl
theorem chB_step {m s k i : Nat} : D.blk 1 (((List.range m).map fun a => [D.int .i64 (if a < i then dig s k a else 0)]).set i [.int .i64 (dig s k i)]) = chB m s k (i + 1) := by
  rw [chB_eq, set_range_map]
  congr 1
  refine List.map_congr_left fun x _ => ?_
  by_cases e : x = i
  · subst e; rw [if_pos rfl, if_pos (by omega)]
  · rw [if_neg e]
    by_cases e2 : x < i
    · rw [if_pos e2, if_pos (by omega)]
    · rw [if_neg e2, if_neg (by omega)]
theorem pow_le {s i : Nat} (hs : s ≤ 4) (hi : i ≤ 5) : pw s i ≤ 1024 := by
  unfold pw
  have h1 : s ^ i ≤ 4 ^ i := Nat.pow_le_pow_left hs i
  have h2 : 4 ^ i ≤ 4 ^ 5 := Nat.pow_le_pow_right (by omega) hi
  omega
theorem choice_chK {j : Job} (hv : jobValid j = true) (k : Nat) : choiceF j (chK j.below.l.length j.secs.length k) = 0 := by
  have hs : 0 < j.secs.length := by simp only [jobValid, Bool.and_eq_true, decide_eq_true_eq] at hv; omega
  rw [choiceF, if_neg (by rw [hv]; simp), if_neg (by simp [chK]), if_neg]
  rw [Bool.not_eq_true, List.any_eq_false]
  intro x hx
  obtain ⟨i, hi, rfl⟩ := List.mem_map.1 hx
  have := Nat.mod_lt (dv j.secs.length k i) hs
  obtain ⟨d, hd⟩ : ∃ d, d = dv j.secs.length k i % j.secs.length := ⟨_, rfl⟩
  rw [← hd] at this
  rw [Bool.not_eq_true, dig, ← hd]
  simp only [outS1, Bool.or_eq_false_iff, decide_eq_false_iff_not]
  omega
variable {C : CC} (hC : Closed prog C)
include hC
set_option maxRecDepth 4000 in
set_option maxHeartbeats 4000000 in
theorem SizingBest_c (j : Job) : C 115 [.agg (jobC j)] (.bool true) [] := by
  refine start hC (nf := N115_law47_SizingBest) rfl rfl ?_
  simp [N115_law47_SizingBest]
  refine callW_of (awake_c hC) (.inl rfl) ?_
  have hlg := large_c hC j
  have hs := Solve_c hC j
  have hval := Valid_c hC j
  have ha1 := Allowed_c hC j false (bestF j)
  have hc1 := Cost_c hC j false (bestF j)
  have ha2 := Allowed_c hC j false
  have hc2 := Cost_c hC j false
  simp [jobC_eq]
  simp [jobC_eq] at hlg hs hval ha1 hc1 ha2 hc2
  refine callW_of hlg (.inl rfl) ?_
  cases h1 : largeF j
  case true => simp
  simp
  refine brB_of (fun h2 => ?_) (fun h2 => ?_) <;> simp at h2 <;> simp [h2]
  refine brB_of (fun h3 => ?_) (fun h3 => ?_) <;> simp at h3 <;> simp [h3]
  refine callW_of hs (.inr rfl) ?_
  simp [intsD]
  cases hv : jobValid j
  · rw [hv] at hval
    simp [solveF, hv, slx]
    refine callW_of hval (.inl rfl) ?_
    simp
  have hn : j.below.l.length ≤ 5 := by omega
  have hm : j.secs.length ≤ 4 := by omega
  obtain ⟨r, hr⟩ : ∃ r, r = solveF j := ⟨_, rfl⟩
  have hbest : ∀ ch, choiceF j ch = 0 → (allowedF j ch).1 = true → r.2.2 = 0 ∧ r.1 ≤ costC j ch := fun ch h0 ha => by
    obtain ⟨b1, b2⟩ := best_le h0 ha
    rw [hr, solveF, if_pos hv, if_neg b1]
    exact ⟨rfl, b2⟩
  have hfirst : (r.2.2 = 28 ∨ (r.2.2 = 0 ∧ r.2.1 = (false, bestF j) ∧ allowedF j (bestF j) = (true, -1, 0) ∧ costF2 j (bestF j) = (r.1, 0))) := by
    rw [hr, solveF, if_pos hv]
    by_cases hB : costB j = -1
    · rw [if_pos hB]; exact .inl rfl
    · rw [if_neg hB]
      exact .inr ⟨rfl, rfl, best_ok hv hB⟩
  rw [← hr]
  obtain ⟨c, ⟨nb, l⟩, e⟩ := r
  clear hr
  simp only [] at hbest hfirst
  rcases hfirst with rfl | ⟨rfl, e2, e3, e4⟩
  case' inr =>
    simp only [Prod.mk.injEq] at e2
    obtain ⟨rfl, rfl⟩ := e2
    rw [e3] at ha1
    rw [e4] at hc1
    simp
    refine callW_of (ha1 (by simp [bestF]; omega)) (.inl rfl) ?_
    simp
    refine callW_of (hc1 (by simp [bestF]; omega)) (.inl rfl) ?_
  all_goals simp
  all_goals refine ⟨indW_of (by decide +kernel), ?_⟩
  case' inl => obtain ⟨e, he⟩ : ∃ e : Int, e = 28 := ⟨_, rfl⟩
  case' inr => obtain ⟨e, he⟩ : ∃ e : Int, e = 0 := ⟨_, rfl⟩
  case' inl => obtain ⟨c0, hc0⟩ : ∃ c0 : Int, c0 = c := ⟨_, rfl⟩
  case' inr => obtain ⟨c0, hc0⟩ : ∃ c0 : Int, c0 = c := ⟨_, rfl⟩
  all_goals
   refine loop_of Nat (fun i => [(1, .ptr (jobC j)), (3, .int .i64 c0), (5, .int .i64 e), (11, .int .i64 j.below.l.length), (12, .int .i64 j.secs.length), (13, .int .i64 ((pw j.secs.length i : Nat) : Int)), (100, .int .i64 j.below.l.length), (101, .int .i64 i)])
    (fun i => i ≤ j.below.l.length) (fun i => j.below.l.length - i) 0 (by simp) (by simp [jobC_eq, he, hc0, pw]) ?_
  all_goals rintro i hi
  all_goals simp
  all_goals (refine brB_of (fun h4 => ?_) (fun h4 => ?_) <;> simp at h4 <;> simp [h4])
  case' inl.refine_1 | inr.refine_1 =>
    have hw : IntKind.wrap .i64 ((i : Int) + 1) = ((i + 1 : Nat) : Int) := wrap_i64 (by omega) (by omega)
    have hp : pw j.secs.length (i + 1) = pw j.secs.length i * j.secs.length := Nat.pow_succ ..
    have hp2 := pow_le (s := j.secs.length) (i := i + 1) hm (by omega)
    have hw1 : IntKind.wrap .i64 ((pw j.secs.length i : Int) * j.secs.length) = ((pw j.secs.length (i + 1) : Nat) : Int) := by
      rw [hp]; exact wrap_i64 (by push_cast; rfl) (by rw [← hp]; omega)
    rw [hw, hw1]
    exact ⟨i + 1, by omega, by omega, rfl, rfl⟩
  all_goals obtain rfl : i = j.below.l.length := by omega
  all_goals have hall := pow_le (s := j.secs.length) (i := j.below.l.length) hm hn
  all_goals
   refine loop_of Nat (fun k => [(1, .ptr (jobC j)), (3, .int .i64 c0), (5, .int .i64 e), (11, .int .i64 j.below.l.length), (12, .int .i64 j.secs.length), (107, .int .i64 ((pw j.secs.length j.below.l.length : Nat) : Int)), (108, .int .i64 k)])
    (fun k => k ≤ pw j.secs.length j.below.l.length) (fun k => pw j.secs.length j.below.l.length - k) 0 (by simp) (by simp [jobC_eq, he, hc0]) ?_
  all_goals rintro k hk
  all_goals simp
  all_goals (refine brB_of (fun h5 => ?_) (fun h5 => ?_) <;> simp at h5 <;> simp [h5])
  all_goals refine ⟨by omega, ?_⟩
  all_goals
   refine loop_of Nat (fun i => [(1, .ptr (jobC j)), (3, .int .i64 c0), (5, .int .i64 e), (11, .int .i64 j.below.l.length), (12, .int .i64 j.secs.length), (107, .int .i64 ((pw j.secs.length j.below.l.length : Nat) : Int)), (108, .int .i64 k), (14, .int .i64 ((dv j.secs.length k i : Nat) : Int)), (15, .ref (.r 10240) 0 j.below.l.length), (10240, chB j.below.l.length j.secs.length k i), (113, .int .i64 j.below.l.length), (114, .int .i64 i)])
    (fun i => i ≤ j.below.l.length) (fun i => j.below.l.length - i) 0 (by simp) (by simp [jobC_eq, he, hc0, dv_zero, chB_eq, replicate_range]) ?_
  all_goals rintro i hi
  all_goals simp
  all_goals (refine brB_of (fun h6 => ?_) (fun h6 => ?_) <;> simp at h6 <;> simp [h6])
  case' inl.refine_2.refine_1.refine_1 | inr.refine_2.refine_1.refine_1 =>
    have hsp : ¬ j.secs = [] := fun h => by simp [jobValid, h] at hv
    have hw : IntKind.wrap .i64 ((i : Int) + 1) = ((i + 1 : Nat) : Int) := wrap_i64 (by omega) (by omega)
    have hm1 : Int.tmod ((dv j.secs.length k i : Nat) : Int) (j.secs.length : Int) = dig j.secs.length k i := by rw [tmodN, dig]
    have hq1 : IntKind.wrap .i64 (Int.tdiv ((dv j.secs.length k i : Nat) : Int) (j.secs.length : Int)) = ((dv j.secs.length k (i + 1) : Nat) : Int) := by
      rw [tdivN, dv_succ]
      have := @dv_le j.secs.length k (i + 1)
      exact wrap_i64 rfl (by omega)
    have hq2 : IntKind.wrap .i64 (((dv j.secs.length k i : Nat) : Int) / (j.secs.length : Int)) = ((dv j.secs.length k (i + 1) : Nat) : Int) := by
      rw [← hq1, tdivN]; norm_cast
    have hst := chB_step (m := j.below.l.length) (s := j.secs.length) (k := k) (i := i)
    simp [chB_eq, h6, hsp, hm1, hq1, hw, hst]
    exact ⟨i + 1, by omega, by omega, hq2, by rw [chB_eq] at hst; simpa using hst, by simp⟩
  case' inl.refine_2.refine_1.refine_2 | inr.refine_2.refine_1.refine_2 =>
    obtain rfl : i = j.below.l.length := by omega
    have hw : IntKind.wrap .i64 ((k : Int) + 1) = ((k + 1 : Nat) : Int) := wrap_i64 (by omega) (by omega)
    have h0 := choice_chK hv k
    obtain ⟨ch, hch⟩ : ∃ ch, ch = chK j.below.l.length j.secs.length k := ⟨_, rfl⟩
    have hcl : ch.length = j.below.l.length := by rw [hch]; simp [chK]
    have hB : chB j.below.l.length j.secs.length k j.below.l.length = .blk 1 (ch.map fun n => [.int .i64 n]) := by
      rw [chB_eq, hch, chK, List.map_map]
      congr 1
      refine List.map_congr_left fun x hx => ?_
      rw [List.mem_range] at hx
      rw [if_pos hx]; rfl
    rw [← hch] at h0
    have a2 := ha2 ch (by omega)
    have c2 := hc2 ch (by omega)
    have hcost : costF2 j ch = (costC j ch, 0) := by rw [costF2, if_neg (by rw [h0]; simp)]
    have hok : (allowedF j ch).2.2 = 0 := by
      unfold allowedF
      rw [if_neg (by rw [h0]; simp)]
      split <;> rfl
    have hb := hbest ch h0
    rw [hok] at a2
    rw [hcost] at c2
    obtain ⟨al, hal⟩ : ∃ al, al = allowedF j ch := ⟨_, rfl⟩
    rw [← hal] at a2 hb
    obtain ⟨ok, ai, af⟩ := al
    have ht : List.take j.below.l.length (ch.map fun n => [D.int .i64 n]) = ch.map fun n => [D.int .i64 n] := List.take_of_length_le (by simp; omega)
    have hcv : ((fun e => List.map cellV e) ∘ fun (n : Int) => [D.int .i64 n]) = fun n => [D.int .i64 n] := by funext n; simp
    simp [hB, jobC_eq, hcl, hcv, ht]
    refine callW_of a2 (.inl rfl) ?_
    simp [hcl, hcv, ht]
    refine callW_of c2 (.inl rfl) ?_
    simp
    cases ok
    · simp
      exact ⟨k + 1, by omega, by omega, by simp [jobC_eq], hw⟩
    · have hb2 := hb rfl
      have he2 : e = 0 := by omega
      have hcc : ¬ costC j ch < c0 := by omega
      simp [he2, hcc]
      exact ⟨k + 1, by omega, by omega, by simp [jobC_eq], hw⟩
end Go.Gv
