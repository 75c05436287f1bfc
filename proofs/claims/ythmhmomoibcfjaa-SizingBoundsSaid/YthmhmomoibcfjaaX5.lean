/-
  Texts of the proof: L2, K22.
-/
import Derived.Test.YthmhmomoibcfjaaX4
set_option linter.all false
set_option linter.unusedSimpArgs false
namespace Go.Gv

/-! ### Sums -/
def S (g : Nat → Int) : Nat → Int
  | 0 => 0
  | n + 1 => S g n + g n
theorem S_congr {g g' : Nat → Int} : ∀ n, (∀ a, a < n → g a = g' a) → S g n = S g' n
  | 0, _ => rfl
  | n + 1, h => by simp only [S]; rw [S_congr n (fun a ha => h a (by omega)), h n (by omega)]
theorem S_le {g g' : Nat → Int} : ∀ n, (∀ a, a < n → g a ≤ g' a) → S g n ≤ S g' n
  | 0, _ => Int.le_refl _
  | n + 1, h => by
    simp only [S]
    have := S_le n (fun a ha => h a (by omega))
    have := h n (by omega)
    omega
theorem S_add {g g' : Nat → Int} : ∀ n, S (fun a => g a + g' a) n = S g n + S g' n
  | 0 => rfl
  | n + 1 => by simp only [S]; rw [S_add n]; omega
theorem S_zero : ∀ n, S (fun _ => 0) n = 0
  | 0 => rfl
  | n + 1 => by simp only [S]; rw [S_zero n]; rfl
theorem S_nonneg {g : Nat → Int} (n : Nat) (h : ∀ a, a < n → 0 ≤ g a) : 0 ≤ S g n := by
  have := S_le (g := fun _ => 0) (g' := g) n h
  rw [S_zero] at this
  exact this
theorem S_ext {g : Nat → Int} {m : Nat} : ∀ n, m ≤ n → (∀ a, m ≤ a → a < n → g a = 0) → S g n = S g m
  | 0, h, _ => by
    have : m = 0 := by omega
    subst this; rfl
  | n + 1, h, hz => by
    by_cases e : m = n + 1
    · subst e; rfl
    · simp only [S]
      rw [S_ext n (by omega) (fun a h1 h2 => hz a h1 (by omega)), hz n (by omega) (by omega)]
      omega
theorem sum_filter (f : Nat → Int) (p : Nat → Bool) : ∀ n, (((List.range n).filter p).map f).sum = S (fun a => if p a then f a else 0) n
  | 0 => rfl
  | n + 1 => by
    rw [List.range_succ, List.filter_append, List.map_append, List.sum_append, sum_filter f p n]
    simp only [S, List.filter_cons, List.filter_nil]
    cases p n <;> simp

theorem sumG_eq {v : Nat → Int} : ∀ {l : List Nat} {s : Int}, (∀ a ∈ l, v a ≠ -1) → (∀ a ∈ l, 0 ≤ v a) → 0 ≤ s → s + (l.map v).sum < 9223372036854775808 → sumG v l s = some (s + (l.map v).sum)
  | [], s, _, _, _, _ => by simp [sumG]
  | a :: l, s, h1, h2, h3, h4 => by
    have h5 := h2 a (by simp)
    have h6 : 0 ≤ (l.map v).sum := by
      have : ∀ l : List Nat, (∀ a ∈ l, 0 ≤ v a) → 0 ≤ (l.map v).sum := by
        intro l
        induction l with
        | nil => intro _; simp
        | cons x l ih => intro h; simp only [List.map_cons, List.sum_cons]; have := h x (by simp); have := ih (fun a ha => h a (by simp [ha])); omega
      exact this l (fun a ha => h2 a (by simp [ha]))
    simp only [List.map_cons, List.sum_cons] at h4 ⊢
    simp only [sumG]
    rw [if_neg (h1 a (by simp)), wrap_i64 rfl (by omega), sumG_eq (fun b hb => h1 b (by simp [hb])) (fun b hb => h2 b (by simp [hb])) (by omega) (by omega)]
    congr 1
    omega
theorem sumG_bad {v : Nat → Int} : ∀ {l : List Nat} {s : Int} {a : Nat}, a ∈ l → v a = -1 → sumG v l s = none
  | x :: l, s, a, h, ha => by
    simp only [sumG]
    by_cases hx : v x = -1
    · rw [if_pos hx]
    · rw [if_neg hx]
      rcases List.mem_cons.1 h with rfl | h
      · exact absurd ha hx
      · exact sumG_bad h ha

/-! ### Jobs -/
def B : Int := 18014398509481984
theorem B_eq : B = 18014398509481984 := rfl
theorem valid_facts {j : Job} (hv : jobValid j = true) : j.below.l.length ≤ 400 ∧ j.lengths.l.length = j.below.l.length ∧ j.secs.length ≤ 40 := by
  simp only [jobValid, catValid, Bool.and_eq_true, decide_eq_true_eq] at hv
  omega
/-- A pipe's own cost. -/
def ownC (j : Job) (i s : Nat) : Int := j.lengths.l[i]! * j.secs[s]!.price
theorem ownC_bd {j : Job} (hv : jobValid j = true) {i s : Nat} (hi : i < j.below.l.length) (hs : s < j.secs.length) : 0 ≤ ownC j i s ∧ ownC j i s ≤ B := by
  have h1 : 1 ≤ j.lengths.l[i]! ∧ j.lengths.l[i]! ≤ 16777216 := by
    simp only [jobValid, Bool.and_eq_true, List.all_eq_true, List.mem_range] at hv
    have := hv.2 i hi
    simp only [pipeOk, inR, Bool.and_eq_true, decide_eq_true_eq] at this
    exact this.1.1.1.2
  have h2 : 0 ≤ j.secs[s]!.price ∧ j.secs[s]!.price ≤ 1073741824 := by
    rw [getElem!_pos j.secs s hs]
    simp only [jobValid, catValid, Bool.and_eq_true, List.all_eq_true] at hv
    have := hv.1.2.1.2 _ (List.getElem_mem hs)
    simp only [secValid, Bool.and_eq_true, decide_eq_true_eq] at this
    omega
  have h3 := Int.mul_nonneg (show 0 ≤ j.lengths.l[i]! by omega) h2.1
  have h4 := Int.mul_le_mul h1.2 h2.2 h2.1 (by omega)
  refine ⟨h3, ?_⟩
  unfold ownC B
  omega

/-- Pipe a leads out of the first i pipes. -/
def fr (j : Job) (i a : Nat) : Bool := decide (j.below.l[a]! = -1) || decide ((i : Int) ≤ j.below.l[a]!)
def FS (j : Job) (f : Nat → Int) (i : Nat) : Int := S (fun a => if fr j i a then f a else 0) i
def AS (j : Job) (f : Nat → Int) (i : Nat) : Int := S (fun a => if j.below.l[a]! = (i : Int) then f a else 0) i
theorem above_sum {j : Job} (hv : jobValid j = true) (f : Nat → Int) {i : Nat} (hi : i < j.below.l.length) : ((aboveF j i).map f).sum = AS j f i := by
  unfold aboveF AS
  rw [sum_filter, S_ext (m := i) _ (by omega)]
  · exact S_congr _ (fun a _ => by simp)
  · intro a h1 h2
    rw [if_neg]
    intro h3
    have h3 : j.below.l[a]! = (i : Int) := by simpa using h3
    rcases valid_below hv h2 with h4 | h4 <;> omega
theorem FS_step {j : Job} (hv : jobValid j = true) (f : Nat → Int) {i : Nat} (hi : i < j.below.l.length) : FS j f (i + 1) + AS j f i = FS j f i + f i := by
  unfold FS AS
  simp only [S]
  have h1 : fr j (i + 1) i = true := by
    unfold fr
    rcases valid_below hv hi with h | h
    · simp [h]
    · simp only [Bool.or_eq_true, decide_eq_true_eq]; right; omega
  rw [if_pos h1]
  have h2 : S (fun a => if fr j i a = true then f a else 0) i = S (fun a => (if fr j (i + 1) a = true then f a else 0) + (if j.below.l[a]! = (i : Int) then f a else 0)) i := by
    refine S_congr _ (fun a ha => ?_)
    unfold fr
    by_cases e1 : j.below.l[a]! = (i : Int)
    · rw [if_pos e1, if_pos (by simp only [Bool.or_eq_true, decide_eq_true_eq]; omega), if_neg (by simp only [Bool.or_eq_true, decide_eq_true_eq]; omega)]
      omega
    · rw [if_neg e1]
      by_cases e2 : j.below.l[a]! = -1
      · rw [if_pos (by simp only [Bool.or_eq_true, decide_eq_true_eq]; omega), if_pos (by simp only [Bool.or_eq_true, decide_eq_true_eq]; omega)]
        omega
      · by_cases e3 : (i : Int) ≤ j.below.l[a]!
        · rw [if_pos (by simp only [Bool.or_eq_true, decide_eq_true_eq]; omega), if_pos (by simp only [Bool.or_eq_true, decide_eq_true_eq]; omega)]
          omega
        · rw [if_neg (by simp only [Bool.or_eq_true, decide_eq_true_eq]; omega), if_neg (by simp only [Bool.or_eq_true, decide_eq_true_eq]; omega)]
          omega
  rw [h2, S_add]
  omega
theorem AS_le_FS {j : Job} {f : Nat → Int} {i : Nat} (h : ∀ a, a < i → 0 ≤ f a) : AS j f i ≤ FS j f i := by
  unfold AS FS
  refine S_le _ (fun a ha => ?_)
  have := h a ha
  by_cases e : j.below.l[a]! = (i : Int)
  · rw [if_pos e, if_pos (by simp only [fr, Bool.or_eq_true, decide_eq_true_eq]; omega)]
    exact Int.le_refl _
  · rw [if_neg e]
    split <;> omega
theorem roots_sum {j : Job} (hv : jobValid j = true) (f : Nat → Int) : ((rootsF j).map f).sum = FS j f j.below.l.length := by
  unfold rootsF FS
  rw [sum_filter]
  refine S_congr _ (fun a ha => ?_)
  have e : fr j j.below.l.length a = decide (j.below.l[a]! = -1) := by
    unfold fr
    rcases valid_below hv ha with h | h
    · rw [h]; rfl
    · rw [show decide (((j.below.l.length : Nat) : Int) ≤ j.below.l[a]!) = false by simp only [decide_eq_false_iff_not]; omega, Bool.or_false]
  rw [e]
theorem root_mem {j : Job} {a : Nat} (h : a ∈ rootsF j) : a < j.below.l.length ∧ j.below.l[a]! = -1 := by
  simp only [rootsF, List.mem_filter, List.mem_range, decide_eq_true_eq] at h
  exact h

/-! ### The least value -/
theorem lv_spec (j : Job) (val : Nat → List Int) (h : Int) (a : Nat) : (lv j val h a = -1 ∧ ∀ s, s < (val a).length → (val a)[s]! ≠ -1 → okF j a h s = false) ∨
    ∃ s, s < (val a).length ∧ lv j val h a = (val a)[s]! ∧ (val a)[s]! ≠ -1 ∧ okF j a h s = true ∧ ∀ s', s' < (val a).length → (val a)[s']! ≠ -1 → okF j a h s' = true → (val a)[s]! ≤ (val a)[s']! := by
  unfold lv
  rcases least_spec (okF j a h) (val a) with ⟨h1, h2⟩ | ⟨s, h1, h2, h3, h4, h5⟩
  · exact .inl ⟨by rw [h1], h2⟩
  · exact .inr ⟨s, h1, by rw [h2], h3, h4, h5⟩

def mx (l : List Int) : Int := l.foldl max 0
theorem mx_spec : ∀ (l : List Int) (b : Int), b ≤ l.foldl max b ∧ ∀ x ∈ l, x ≤ l.foldl max b
  | [], b => ⟨Int.le_refl _, by simp⟩
  | y :: l, b => by
    obtain ⟨h1, h2⟩ := mx_spec l (max b y)
    simp only [List.foldl_cons]
    refine ⟨by omega, fun x hx => ?_⟩
    rcases List.mem_cons.1 hx with rfl | hx
    · omega
    · exact h2 x hx
theorem mx_bd {l : List Int} {t : Int} (ht : 0 ≤ t) (h : ∀ x ∈ l, x ≤ t) : mx l ≤ t := by
  unfold mx
  have : ∀ (l : List Int) (b : Int), b ≤ t → (∀ x ∈ l, x ≤ t) → l.foldl max b ≤ t := by
    intro l
    induction l with
    | nil => intro b hb _; exact hb
    | cons y l ih =>
      intro b hb h
      simp only [List.foldl_cons]
      exact ih _ (by have := h y (by simp); omega) (fun x hx => h x (by simp [hx]))
  exact this l 0 ht h

theorem get_mem {l : List Int} {s : Nat} (h : s < l.length) : l[s]! ∈ l := by
  rw [getElem!_pos l s h]; exact List.getElem_mem h

/-- The least value of rows that are -1 or not negative. -/
theorem lv_bd {j : Job} {val : Nat → List Int} {h : Int} {a : Nat} (hp : ∀ x ∈ val a, -1 ≤ x) : lv j val h a = -1 ∨ (0 ≤ lv j val h a ∧ lv j val h a ≤ mx (val a)) := by
  rcases lv_spec j val h a with ⟨h1, _⟩ | ⟨s, h1, h2, h3, _⟩
  · exact .inl h1
  · right
    have h4 := get_mem h1
    have h5 := hp _ h4
    have h6 := (mx_spec (val a) 0).2 _ h4
    rw [h2]
    exact ⟨by omega, h6⟩

/-- A cost that is exact. -/
theorem costF_eq {j : Job} (hv : jobValid j = true) {val : Nat → List Int} {i s : Nat} (hi : i < j.below.l.length) (hs : s < j.secs.length) (hp : ∀ a ∈ aboveF j i, lv j val j.secs[s]!.height a = -1 ∨ 0 ≤ lv j val j.secs[s]!.height a)
    (hb : (∀ a ∈ aboveF j i, lv j val j.secs[s]!.height a ≠ -1) → ((aboveF j i).map (lv j val j.secs[s]!.height)).sum ≤ 9000000000000000000) :
    ((∃ a ∈ aboveF j i, lv j val j.secs[s]!.height a = -1) ∧ costF j val i s = -1) ∨ ((∀ a ∈ aboveF j i, lv j val j.secs[s]!.height a ≠ -1) ∧ costF j val i s = ownC j i s + ((aboveF j i).map (lv j val j.secs[s]!.height)).sum) := by
  obtain ⟨h1, h2⟩ := ownC_bd hv hi hs
  rw [B_eq] at h2
  by_cases hx : ∃ a ∈ aboveF j i, lv j val j.secs[s]!.height a = -1
  · obtain ⟨a, ha, h3⟩ := hx
    exact .inl ⟨⟨a, ha, h3⟩, by unfold costF; rw [sumG_bad ha h3]; rfl⟩
  · right
    have hx' : ∀ a ∈ aboveF j i, lv j val j.secs[s]!.height a ≠ -1 := fun a ha e => hx ⟨a, ha, e⟩
    refine ⟨hx', ?_⟩
    have := hb hx'
    show (sumG _ _ (IntKind.wrap .i64 (ownC j i s))).getD (-1) = _
    rw [wrap_i64 (m := ownC j i s) rfl (by omega), sumG_eq hx' (fun a ha => (hp a ha).resolve_left (hx' a ha)) h1 (by omega)]
    rfl

theorem list_sum_nn {l : List Nat} {f : Nat → Int} (h : ∀ a ∈ l, 0 ≤ f a) : 0 ≤ (l.map f).sum := by
  induction l with
  | nil => simp
  | cons x l ih =>
    simp only [List.map_cons, List.sum_cons]
    have := h x (by simp)
    have := ih (fun a ha => h a (by simp [ha]))
    omega
theorem list_sum_le {l : List Nat} {f g : Nat → Int} (h : ∀ a ∈ l, f a ≤ g a) : (l.map f).sum ≤ (l.map g).sum := by
  induction l with
  | nil => simp
  | cons x l ih =>
    simp only [List.map_cons, List.sum_cons]
    have := h x (by simp)
    have := ih (fun a ha => h a (by simp [ha]))
    omega

/-- The values are -1 or not negative, and not too great. -/
theorem vals_bd {j : Job} (hv : jobValid j = true) : ∀ i, i ≤ j.below.l.length → (∀ a, a < i → ∀ x ∈ valN j a, -1 ≤ x) ∧ FS j (fun a => mx (valN j a)) i ≤ i * B
  | 0, _ => ⟨fun a h => by omega, by simp [FS, S]⟩
  | i + 1, hi => by
    obtain ⟨h1, h2⟩ := vals_bd hv i (by omega)
    have hil : i < j.below.l.length := by omega
    have hn := (valid_facts hv).1
    have hm0 : ∀ a, a < i → 0 ≤ mx (valN j a) := fun a _ => (mx_spec (valN j a) 0).1
    have h3 := AS_le_FS (j := j) (f := fun a => mx (valN j a)) hm0
    have hsum := above_sum hv (fun a => mx (valN j a)) hil
    have hB : (i : Int) * B ≤ 400 * B := Int.mul_le_mul_of_nonneg_right (by omega) (by rw [B_eq]; omega)
    have hcell : ∀ s, s < j.secs.length → (-1 ≤ (valN j i)[s]! ∧ (valN j i)[s]! ≤ B + AS j (fun a => mx (valN j a)) i) := by
      intro s hs
      have hAS0 : 0 ≤ AS j (fun a => mx (valN j a)) i := S_nonneg _ (fun a ha => by split; exact hm0 a ha; exact Int.le_refl _)
      rw [valN_at hv hil hs]
      split
      · have hlv : ∀ a ∈ aboveF j i, lv j (valN j) j.secs[s]!.height a = -1 ∨ (0 ≤ lv j (valN j) j.secs[s]!.height a ∧ lv j (valN j) j.secs[s]!.height a ≤ mx (valN j a)) := fun a ha => lv_bd (h1 a (above_less hv ha))
        have hle : (∀ a ∈ aboveF j i, lv j (valN j) j.secs[s]!.height a ≠ -1) → ((aboveF j i).map (lv j (valN j) j.secs[s]!.height)).sum ≤ AS j (fun a => mx (valN j a)) i := fun hne => by
          rw [← hsum]
          exact list_sum_le (fun a ha => ((hlv a ha).resolve_left (hne a ha)).2)
        have hnn : (∀ a ∈ aboveF j i, lv j (valN j) j.secs[s]!.height a ≠ -1) → 0 ≤ ((aboveF j i).map (lv j (valN j) j.secs[s]!.height)).sum := fun hne => by
          exact list_sum_nn (fun a ha => ((hlv a ha).resolve_left (hne a ha)).1)
        obtain ⟨o1, o2⟩ := ownC_bd hv hil hs
        rw [B_eq] at *
        rcases costF_eq hv hil hs (fun a ha => (hlv a ha).imp id (fun h => h.1)) (fun hne => by have := hle hne; omega) with ⟨_, h4⟩ | ⟨hne, h4⟩
        · rw [h4]; omega
        · rw [h4]
          have := hle hne
          have := hnn hne
          omega
      · rw [B_eq]; omega
    have hrow : ∀ x ∈ valN j i, ∃ s, s < j.secs.length ∧ x = (valN j i)[s]! := fun x hx => by
      obtain ⟨s, hs, rfl⟩ := List.mem_iff_getElem.1 hx
      exact ⟨s, by rw [valN_len hil] at hs; exact hs, by rw [getElem!_pos _ s hs]⟩
    constructor
    · intro a ha x hx
      rcases Nat.lt_succ_iff_lt_or_eq.1 ha with h | rfl
      · exact h1 a h x hx
      · obtain ⟨s, hs, rfl⟩ := hrow x hx
        exact (hcell s hs).1
    · have h5 := FS_step hv (fun a => mx (valN j a)) hil
      have hAS0 : 0 ≤ AS j (fun a => mx (valN j a)) i := S_nonneg _ (fun a ha => by split; exact hm0 a ha; exact Int.le_refl _)
      have h6 : mx (valN j i) ≤ B + AS j (fun a => mx (valN j a)) i := mx_bd (by rw [B_eq]; omega) (fun x hx => by
        obtain ⟨s, hs, rfl⟩ := hrow x hx
        exact (hcell s hs).2)
      rw [B_eq] at *
      push_cast
      omega
end Go.Gv
namespace Go.Gv
/-- The job's values, as they are handed over. -/
def valsS (j : Job) : List SlI := (List.range j.below.l.length).map fun a => ⟨false, valN j a⟩
theorem valsS_at {j : Job} {a : Nat} (h : a < j.below.l.length) : rowsF (valsS j) a = valN j a := by
  unfold rowsF valsS
  rw [getElem!_pos _ a (by simpa using h)]
  simp

/-- What is known of the values of a valid job. -/
theorem vals_cell {j : Job} (hv : jobValid j = true) {i : Nat} (hi : i < j.below.l.length) : ∀ x ∈ valN j i, -1 ≤ x := (vals_bd hv (i + 1) (by omega)).1 i (by omega)
theorem vals_mx {j : Job} (hv : jobValid j = true) {i : Nat} (hi : i < j.below.l.length) : mx (valN j i) ≤ j.below.l.length * B := by
  have h1 := (vals_bd hv (i + 1) (by omega)).2
  have h2 : mx (valN j i) ≤ FS j (fun a => mx (valN j a)) (i + 1) := by
    have h3 := FS_step hv (fun a => mx (valN j a)) hi
    have h4 := AS_le_FS (j := j) (i := i) (f := fun a => mx (valN j a)) (fun a _ => (mx_spec (valN j a) 0).1)
    omega
  have h5 : ((i + 1 : Nat) : Int) * B ≤ j.below.l.length * B := Int.mul_le_mul_of_nonneg_right (by omega) (by rw [B_eq]; omega)
  omega
theorem lvN_bd {j : Job} (hv : jobValid j = true) {h : Int} {a : Nat} (ha : a < j.below.l.length) : lv j (valN j) h a = -1 ∨ (0 ≤ lv j (valN j) h a ∧ lv j (valN j) h a ≤ mx (valN j a)) := lv_bd (vals_cell hv ha)
theorem sum_above_bd {j : Job} (hv : jobValid j = true) {h : Int} {i : Nat} (hi : i < j.below.l.length) (hne : ∀ a ∈ aboveF j i, lv j (valN j) h a ≠ -1) : ((aboveF j i).map (lv j (valN j) h)).sum ≤ 7205759403792793600 := by
  have h1 := list_sum_le (fun a ha => ((lvN_bd hv (above_lt ha)).resolve_left (hne a ha)).2)
  rw [above_sum hv (fun a => mx (valN j a)) hi] at h1
  have h2 := AS_le_FS (j := j) (i := i) (f := fun a => mx (valN j a)) (fun a _ => (mx_spec (valN j a) 0).1)
  have h3 := (vals_bd hv i (by omega)).2
  have hn := (valid_facts hv).1
  have h4 : (i : Int) * B ≤ 400 * B := Int.mul_le_mul_of_nonneg_right (by omega) (by rw [B_eq]; omega)
  rw [B_eq] at h4 h3
  omega
/-- A value of a job. -/
theorem valN_eq' {j : Job} (hv : jobValid j = true) {i s : Nat} (hi : i < j.below.l.length) (hs : s < j.secs.length) (hp : possAt j i s = true) :
    ((∃ a ∈ aboveF j i, lv j (valN j) j.secs[s]!.height a = -1) ∧ (valN j i)[s]! = -1) ∨ ((∀ a ∈ aboveF j i, lv j (valN j) j.secs[s]!.height a ≠ -1) ∧ (valN j i)[s]! = ownC j i s + ((aboveF j i).map (lv j (valN j) j.secs[s]!.height)).sum) := by
  rw [valN_at hv hi hs, if_pos hp]
  exact costF_eq hv hi hs (fun a ha => (lvN_bd hv (above_lt ha)).imp id (fun h => h.1)) (fun hne => by have := sum_above_bd hv hi hne; omega)
/-- The bound of a job's values. -/
theorem costB_eq {j : Job} (hv : jobValid j = true) : ((∃ a ∈ rootsF j, lv j (valN j) 4194304 a = -1) ∧ costB j = -1) ∨ ((∀ a ∈ rootsF j, lv j (valN j) 4194304 a ≠ -1) ∧ costB j = ((rootsF j).map (lv j (valN j) 4194304)).sum ∧ 0 ≤ costB j) := by
  unfold costB boundF
  by_cases hx : ∃ a ∈ rootsF j, lv j (valN j) 4194304 a = -1
  · obtain ⟨a, ha, h3⟩ := hx
    exact .inl ⟨⟨a, ha, h3⟩, by rw [sumG_bad ha h3]; rfl⟩
  · right
    have hx' : ∀ a ∈ rootsF j, lv j (valN j) 4194304 a ≠ -1 := fun a ha e => hx ⟨a, ha, e⟩
    have h1 : ∀ a ∈ rootsF j, 0 ≤ lv j (valN j) 4194304 a ∧ lv j (valN j) 4194304 a ≤ mx (valN j a) := fun a ha => (lvN_bd hv (root_mem ha).1).resolve_left (hx' a ha)
    have h2 := list_sum_le (fun a ha => (h1 a ha).2)
    rw [roots_sum hv (fun a => mx (valN j a))] at h2
    have h3 := (vals_bd hv _ (Nat.le_refl _)).2
    have hn := (valid_facts hv).1
    have h4 : (j.below.l.length : Int) * B ≤ 400 * B := Int.mul_le_mul_of_nonneg_right (by omega) (by rw [B_eq]; omega)
    rw [B_eq] at h4 h3
    refine ⟨hx', ?_⟩
    rw [sumG_eq hx' (fun a ha => (h1 a ha).1) (Int.le_refl _) (by omega)]
    simp only [Option.getD_some, Int.zero_add]
    exact ⟨trivial, list_sum_nn (fun a ha => (h1 a ha).1)⟩

/-- The values of a job that is not large pass. -/
theorem checked_own {j : Job} (hv : jobValid j = true) (hn : j.below.l.length ≤ 12) : checkedF j (valsS j) = (true, costB j, 0) := by
  have hlen : (valsS j).length = j.below.l.length := by simp [valsS]
  have hmem : ∀ x ∈ valsS j, ∃ a, a < j.below.l.length ∧ x.l = valN j a := fun x hx => by
    obtain ⟨a, ha, rfl⟩ := List.mem_map.1 hx
    exact ⟨a, by simpa using ha, rfl⟩
  have c1 : ∀ i s, i < j.below.l.length → s < j.secs.length → possAt j i s = true → costF j (rowsF (valsS j)) i s = (valN j i)[s]! := fun i s hi hs hp => by
    rw [valN_at hv hi hs, if_pos hp]
    exact costF_congr (fun a ha => valsS_at (above_lt ha))
  have hb : ∀ i, i < j.below.l.length → badP j (valsS j) i = false := fun i hi => by
    rw [badP, List.any_eq_false]
    intro s hs
    have hs : s < j.secs.length := by simpa using hs
    rw [badV]
    cases hp : possAt j i s with
    | false => simp
    | true =>
      rw [c1 i s hi hs hp, valsS_at hi]
      by_cases e : (valN j i)[s]! = -1
      · rw [e]; simp
      · simp only [Bool.true_and, Bool.or_eq_true, Bool.and_eq_true, decide_eq_true_eq, Bool.not_eq_true', decide_eq_false_iff_not, not_or, not_and]
        exact ⟨fun h => absurd h e, fun _ => ⟨e, by omega⟩⟩
  have hnone : (List.range j.below.l.length).find? (badP j (valsS j)) = none := by
    rw [List.find?_eq_none]
    intro k hk
    rw [hb k (by simpa using hk)]; simp
  have hB : boundF j (rowsF (valsS j)) = costB j := by
    unfold costB boundF
    rw [sumG_congr (v' := lv j (valN j) 4194304) (fun a ha => by rw [lv, lv, valsS_at (root_mem ha).1])]
  unfold checkedF
  rw [if_neg (by rw [hv]; simp), if_neg, if_neg, hnone, hB]
  · rw [Bool.not_eq_true, List.any_eq_false]
    intro x hx
    obtain ⟨a, ha, e⟩ := hmem x hx
    rw [e, Bool.not_eq_true, List.any_eq_false]
    intro y hy
    have h1 := vals_cell hv ha y hy
    have h2 := (mx_spec (valN j a) 0).2 y hy
    have h3 := vals_mx hv ha
    have h4 : (j.below.l.length : Int) * B ≤ 12 * B := Int.mul_le_mul_of_nonneg_right (by omega) (by rw [B_eq]; omega)
    have h5 : y ≤ mx (valN j a) := h2
    rw [B_eq] at h4 h3
    simp [wideV]
    omega
  · rintro (h | h)
    · exact h hlen
    · rw [List.any_eq_true] at h
      obtain ⟨x, hx, h⟩ := h
      obtain ⟨a, ha, e⟩ := hmem x hx
      rw [e, valN_len ha] at h
      simp at h

/-- Right values have no greater bound. -/
theorem checked_le {j : Job} (hv : jobValid j = true) (hn : j.below.l.length ≤ 12) {vals : List SlI} (hw : ∀ x ∈ vals, ∀ y ∈ x.l, y ≤ 288230376151711744) {n : Int} (hc : checkedF j vals = (true, n, 0)) (hB : costB j ≠ -1) : n ≤ costB j ∧ 0 ≤ n := by
  unfold checkedF at hc
  rw [if_neg (by rw [hv]; simp)] at hc
  split at hc
  · cases hc
  rename_i h1
  split at hc
  · cases hc
  rename_i h2
  have hlen : vals.length = j.below.l.length := Classical.byContradiction fun e => h1 (.inl e)
  have hrow : ∀ a, a < j.below.l.length → rowsF vals a = vals[a]!.l ∧ vals[a]! ∈ vals := fun a ha => ⟨rfl, by rw [getElem!_pos vals a (by omega)]; exact List.getElem_mem _⟩
  have hrl : ∀ a, a < j.below.l.length → (rowsF vals a).length = j.secs.length := fun a ha => Classical.byContradiction fun e => h1 (.inr (List.any_eq_true.2 ⟨_, (hrow a ha).2, by simpa [rowsF] using e⟩))
  have hcell : ∀ a, a < j.below.l.length → ∀ y ∈ rowsF vals a, -1 ≤ y ∧ y ≤ 288230376151711744 := fun a ha y hy => by
    refine ⟨?_, hw _ (hrow a ha).2 y hy⟩
    rw [Bool.not_eq_true, List.any_eq_false] at h2
    have := h2 _ (hrow a ha).2
    rw [Bool.not_eq_true, List.any_eq_false] at this
    have := this y hy
    simp [wideV] at this
    omega
  have hgood : ∀ i s, i < j.below.l.length → s < j.secs.length → badV j vals i s = false := fun i s hi hs => by
    cases hf : (List.range j.below.l.length).find? (badP j vals) with
    | some k => rw [hf] at hc; cases hc
    | none =>
      rw [List.find?_eq_none] at hf
      have := hf i (by simpa using hi)
      rw [Bool.not_eq_true, badP, List.any_eq_false] at this
      have := this s (by simpa using hs)
      simpa using this
  have hbn : boundF j (rowsF vals) = n := by
    cases hf : (List.range j.below.l.length).find? (badP j vals) with
    | some k => rw [hf] at hc; cases hc
    | none => rw [hf] at hc; simpa using hc
  have hlw : ∀ h a, a < j.below.l.length → lv j (rowsF vals) h a = -1 ∨ (0 ≤ lv j (rowsF vals) h a ∧ lv j (rowsF vals) h a ≤ 288230376151711744) := fun h a ha => by
    rcases lv_spec j (rowsF vals) h a with ⟨e, _⟩ | ⟨s, e1, e2, e3, _⟩
    · exact .inl e
    · right
      have := hcell a ha _ (get_mem e1)
      rw [e2]
      omega
  have cnt : ∀ (l : List Nat) (f : Nat → Int), (∀ a ∈ l, f a ≤ 288230376151711744) → (l.map f).sum ≤ l.length * 288230376151711744 := by
    intro l f
    induction l with
    | nil => intro _; simp
    | cons x l ih =>
      intro h
      simp only [List.map_cons, List.sum_cons, List.length_cons]
      have := h x (by simp)
      have := ih (fun a ha => h a (by simp [ha]))
      push_cast
      omega
  -- cell by cell
  have key : ∀ i, i < j.below.l.length → ∀ s, s < j.secs.length → possAt j i s = true → (valN j i)[s]! ≠ -1 → (rowsF vals i)[s]! ≠ -1 ∧ (rowsF vals i)[s]! ≤ (valN j i)[s]! := by
    intro i
    induction i using Nat.strongRecOn with
    | _ i ih =>
      intro hi s hs hp hne
      rcases valN_eq' hv hi hs hp with ⟨_, e⟩ | ⟨e1, e2⟩
      · exact absurd e hne
      have hl : ∀ a ∈ aboveF j i, lv j (rowsF vals) j.secs[s]!.height a ≠ -1 ∧ lv j (rowsF vals) j.secs[s]!.height a ≤ lv j (valN j) j.secs[s]!.height a := fun a ha => by
        have hal := above_lt ha
        rcases lv_spec j (valN j) j.secs[s]!.height a with ⟨f1, _⟩ | ⟨s', f1, f2, f3, f4, _⟩
        · exact absurd f1 (e1 a ha)
        · have hs' : s' < j.secs.length := by rw [valN_len hal] at f1; exact f1
          have hpos : possAt j a s' = true := by simp only [okF, Bool.and_eq_true] at f4; exact f4.1
          obtain ⟨g1, g2⟩ := ih a (above_less hv ha) hal s' hs' hpos f3
          rcases lv_spec j (rowsF vals) j.secs[s]!.height a with ⟨_, f5⟩ | ⟨s'', k1, k2, k3, k4, k5⟩
          · have := f5 s' (by rw [hrl a hal]; exact hs') g1
            rw [this] at f4; cases f4
          · have := k5 s' (by rw [hrl a hal]; exact hs') g1 f4
            rw [k2, f2]
            exact ⟨k3, by omega⟩
      have hle : (aboveF j i).length ≤ 12 := by have := above_len j i; omega
      have hsum := cnt (aboveF j i) (lv j (rowsF vals) j.secs[s]!.height) (fun a ha => ((hlw _ a (above_lt ha)).resolve_left (hl a ha).1).2)
      rcases costF_eq hv (val := rowsF vals) hi hs (fun a ha => (hlw _ a (above_lt ha)).imp id (fun h => h.1)) (fun _ => by omega) with ⟨⟨a, ha, f⟩, _⟩ | ⟨_, f⟩
      · exact absurd f (hl a ha).1
      have hg := hgood i s hi hs
      rw [badV, hp, f] at hg
      have ho := (ownC_bd hv hi hs).1
      have hnn : 0 ≤ ((aboveF j i).map (lv j (rowsF vals) j.secs[s]!.height)).sum := list_sum_nn (fun a ha => ((hlw _ a (above_lt ha)).resolve_left (hl a ha).1).1)
      have hne' : ¬ (ownC j i s + ((aboveF j i).map (lv j (rowsF vals) j.secs[s]!.height)).sum = -1) := by omega
      have hcmp := list_sum_le (fun a ha => (hl a ha).2)
      rw [show decide (ownC j i s + ((aboveF j i).map (lv j (rowsF vals) j.secs[s]!.height)).sum = -1) = false by simp only [decide_eq_false_iff_not]; exact hne'] at hg
      simp only [Bool.true_and, Bool.false_and, Bool.false_or, Bool.not_false, Bool.or_eq_false_iff, decide_eq_false_iff_not] at hg
      rw [e2]
      exact ⟨hg.1, by omega⟩
  rcases costB_eq hv with ⟨_, e⟩ | ⟨e1, e2, e3⟩
  · exact absurd e hB
  have hl : ∀ a ∈ rootsF j, lv j (rowsF vals) 4194304 a ≠ -1 ∧ lv j (rowsF vals) 4194304 a ≤ lv j (valN j) 4194304 a := fun a ha => by
    have hal := (root_mem ha).1
    rcases lv_spec j (valN j) 4194304 a with ⟨f1, _⟩ | ⟨s', f1, f2, f3, f4, _⟩
    · exact absurd f1 (e1 a ha)
    · have hs' : s' < j.secs.length := by rw [valN_len hal] at f1; exact f1
      have hpos : possAt j a s' = true := by simp only [okF, Bool.and_eq_true] at f4; exact f4.1
      obtain ⟨g1, g2⟩ := key a hal s' hs' hpos f3
      rcases lv_spec j (rowsF vals) 4194304 a with ⟨_, f5⟩ | ⟨s'', k1, k2, k3, k4, k5⟩
      · have := f5 s' (by rw [hrl a hal]; exact hs') g1
        rw [this] at f4; cases f4
      · have := k5 s' (by rw [hrl a hal]; exact hs') g1 f4
        rw [k2, f2]
        exact ⟨k3, by omega⟩
  have hle : (rootsF j).length ≤ 12 := by
    have := List.length_filter_le (fun a => decide (j.below.l[a]! = -1)) (List.range j.below.l.length)
    simp only [List.length_range] at this
    unfold rootsF
    omega
  have hsum := cnt (rootsF j) (lv j (rowsF vals) 4194304) (fun a ha => ((hlw _ a (root_mem ha).1).resolve_left (hl a ha).1).2)
  have hnn := list_sum_nn (fun a ha => ((hlw 4194304 a (root_mem ha).1).resolve_left (hl a ha).1).1)
  have hcmp := list_sum_le (fun a ha => (hl a ha).2)
  rw [← hbn, boundF, sumG_eq (fun a ha => (hl a ha).1) (fun a ha => ((hlw _ a (root_mem ha).1).resolve_left (hl a ha).1).1) (Int.le_refl _) (by omega)]
  simp only [Option.getD_some, Int.zero_add]
  omega
end Go.Gv

set_option linter.unusedSimpArgs false
namespace Go.Gv

def bigV (v : Int) : Bool := decide (288230376151711744 < v)
def bigR (x : SlI) : Bool := decide (12 < x.l.length) || x.l.any bigV

theorem valsS_D (j : Job) : valsD j = slx false ((valsS j).map fun x => [slI x]) := by
  rw [valsD_eq]
  simp [valsS, slR_eq]
variable {C : CC} (hC : Closed prog C)
include hC
theorem bigV_c (v : Int) : C 117 [.int .i64 v] (.bool (bigV v)) [] := by
  refine start hC (nf := N117_law47_SizingBounds_1_1) rfl rfl ?_
  simp [N117_law47_SizingBounds_1_1, bigV]
theorem bigR_c (x : SlI) : C 116 [slI x] (.bool (bigR x)) [] := by
  refine start hC (nf := N116_law47_SizingBounds_1) rfl rfl ?_
  simp [N116_law47_SizingBounds_1]
  refine brB_of (fun h => ?_) (fun h => ?_) <;> simp at h <;> simp [h]
  · simp [bigR]; omega
  · refine callW_of (hasInt_c hC (xs := x.l) bigV (by omega) (fun v _ => bigV_c hC v)) (.inl rfl) ?_
    have e : ¬ 12 < x.l.length := by omega
    simp [bigR, e]
set_option maxRecDepth 2000 in
set_option maxHeartbeats 2000000 in
theorem SizingBounds_c (j : Job) (b : Bool) (vals : List SlI) (hll : ∀ x ∈ vals, x.l.length < 2 ^ 62) (hl : vals.length < 2 ^ 62) : C 114 [.agg (jobC j), slx b (vals.map fun x => [slI x])] (.bool true) [] := by
  refine start hC (nf := N114_law47_SizingBounds) rfl rfl ?_
  simp [N114_law47_SizingBounds]
  refine callW_of (awake_c hC) (.inl rfl) ?_
  have hlg := large_c hC j
  have hs := Solve_c hC j
  have hb := Bound_c hC j
  have hc1 := Checked_c hC j false (valsS j)
  have hc2 := Checked_c hC j b vals hl hll
  simp [jobC_eq]
  simp [jobC_eq] at hlg hs hb hc2
  refine callW_of hlg (.inl rfl) ?_
  cases h1 : largeF j
  case true => simp
  simp
  refine brB_of (fun h2 => ?_) (fun h2 => ?_) <;> simp at h2 <;> simp [h2]
  have hr := hasSlI_c hC (b := b) (xs := vals) (g := 116) (cs := []) bigR hl (fun x _ => bigR_c hC x)
  simp at hr
  refine callW_of hr (.inl rfl) ?_
  cases h3 : vals.any bigR
  case true => simp
  simp
  refine callW_of hs (.inr rfl) ?_
  simp [intsD]
  refine callW_of hb (.inr rfl) ?_
  have hn : j.below.l.length ≤ 12 := by
    simp only [largeF, Bool.or_eq_false_iff, decide_eq_false_iff_not] at h1
    omega
  cases hv : jobValid j
  · simp [solveF, hv]
  simp
  have hc1 := Checked_c hC j false (valsS j) (by simp [valsS]; omega) (fun x hx => by
    obtain ⟨a, ha, rfl⟩ := List.mem_map.1 hx
    have hm := (valid_facts hv).2.2
    simp only
    rw [valN_len (by simpa using ha)]
    omega)
  rw [← valsS_D, checked_own hv hn] at hc1
  simp [jobC_eq] at hc1
  refine callW_of hc1 (.inl rfl) ?_
  have hlaw := fun n => checked_le (j := j) hv hn (vals := vals) (n := n) (fun x hx y hy => by
    rw [List.any_eq_false] at h3
    have := h3 x hx
    rw [Bool.not_eq_true, bigR, Bool.or_eq_false_iff, List.any_eq_false] at this
    have := this.2 y hy
    simp [bigV] at this
    omega)
  obtain ⟨r, hr⟩ : ∃ r, r = checkedF j vals := ⟨_, rfl⟩
  rw [← hr] at hc2 hlaw
  obtain ⟨ok, n, g⟩ := r
  have hB : costB j = -1 ∨ costB j ≠ -1 := by omega
  by_cases hB : costB j = -1
  · simp [solveF, hv, hB]
    refine callW_of hc2 (.inl rfl) ?_
    simp
    refine brB_of (fun d1 => ?_) (fun d1 => ?_) <;> simp at d1 <;> simp [d1]
    cases ok <;> simp
  · simp [solveF, hv, hB]
    refine callW_of hc2 (.inl rfl) ?_
    simp
    refine brB_of (fun d1 => ?_) (fun d1 => ?_) <;> simp at d1 <;> simp [d1]
    cases ok
    · simp
    · simp
      obtain ⟨l1, l2⟩ := hlaw n (by rw [d1]) hB
      simp [l1, l2]
end Go.Gv
