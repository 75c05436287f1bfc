/-
  Texts of the proof: L2, M1, M2, M3, M4, M5, M6, M7, M8, M9, M10, M11, M12, M13.
-/
import Derived.Test.YthmhmomoibcfjaaGreatX4
set_option linter.all false
set_option linter.unusedSimpArgs false
namespace Go.Gv

/-! ### Sums -/
def S (g : Nat → Int) : Nat → Int
  | 0 => 0
  | n + 1 => S g n + g n
theorem S_congr {g g' : Nat → Int} : ∀ n, (∀ a, a < n → g a = g' a) → S g n = S g' n
  | 0, _ => rfl
  | n + 1, h => by simp only [S]; rw [S_congr n (fun a ha => h a (by omega)), h n (by omega)]
theorem S_le {g g' : Nat → Int} : ∀ n, (∀ a, a < n → g a ≤ g' a) → S g n ≤ S g' n
  | 0, _ => Int.le_refl _
  | n + 1, h => by
    simp only [S]
    have := S_le n (fun a ha => h a (by omega))
    have := h n (by omega)
    omega
theorem S_add {g g' : Nat → Int} : ∀ n, S (fun a => g a + g' a) n = S g n + S g' n
  | 0 => rfl
  | n + 1 => by simp only [S]; rw [S_add n]; omega
theorem S_zero : ∀ n, S (fun _ => 0) n = 0
  | 0 => rfl
  | n + 1 => by simp only [S]; rw [S_zero n]; rfl
theorem S_nonneg {g : Nat → Int} (n : Nat) (h : ∀ a, a < n → 0 ≤ g a) : 0 ≤ S g n := by
  have := S_le (g := fun _ => 0) (g' := g) n h
  rw [S_zero] at this
  exact this
theorem S_ext {g : Nat → Int} {m : Nat} : ∀ n, m ≤ n → (∀ a, m ≤ a → a < n → g a = 0) → S g n = S g m
  | 0, h, _ => by
    have : m = 0 := by omega
    subst this; rfl
  | n + 1, h, hz => by
    by_cases e : m = n + 1
    · subst e; rfl
    · simp only [S]
      rw [S_ext n (by omega) (fun a h1 h2 => hz a h1 (by omega)), hz n (by omega) (by omega)]
      omega
theorem sum_filter (f : Nat → Int) (p : Nat → Bool) : ∀ n, (((List.range n).filter p).map f).sum = S (fun a => if p a then f a else 0) n
  | 0 => rfl
  | n + 1 => by
    rw [List.range_succ, List.filter_append, List.map_append, List.sum_append, sum_filter f p n]
    simp only [S, List.filter_cons, List.filter_nil]
    cases p n <;> simp

theorem sumG_eq {v : Nat → Int} : ∀ {l : List Nat} {s : Int}, (∀ a ∈ l, v a ≠ -1) → (∀ a ∈ l, 0 ≤ v a) → 0 ≤ s → s + (l.map v).sum < 9223372036854775808 → sumG v l s = some (s + (l.map v).sum)
  | [], s, _, _, _, _ => by simp [sumG]
  | a :: l, s, h1, h2, h3, h4 => by
    have h5 := h2 a (by simp)
    have h6 : 0 ≤ (l.map v).sum := by
      have : ∀ l : List Nat, (∀ a ∈ l, 0 ≤ v a) → 0 ≤ (l.map v).sum := by
        intro l
        induction l with
        | nil => intro _; simp
        | cons x l ih => intro h; simp only [List.map_cons, List.sum_cons]; have := h x (by simp); have := ih (fun a ha => h a (by simp [ha])); omega
      exact this l (fun a ha => h2 a (by simp [ha]))
    simp only [List.map_cons, List.sum_cons] at h4 ⊢
    simp only [sumG]
    rw [if_neg (h1 a (by simp)), wrap_i64 rfl (by omega), sumG_eq (fun b hb => h1 b (by simp [hb])) (fun b hb => h2 b (by simp [hb])) (by omega) (by omega)]
    congr 1
    omega
theorem sumG_bad {v : Nat → Int} : ∀ {l : List Nat} {s : Int} {a : Nat}, a ∈ l → v a = -1 → sumG v l s = none
  | x :: l, s, a, h, ha => by
    simp only [sumG]
    by_cases hx : v x = -1
    · rw [if_pos hx]
    · rw [if_neg hx]
      rcases List.mem_cons.1 h with rfl | h
      · exact absurd ha hx
      · exact sumG_bad h ha

/-! ### Jobs -/
def B : Int := 18014398509481984
theorem B_eq : B = 18014398509481984 := rfl
theorem valid_facts {j : Job} (hv : jobValid j = true) : j.below.l.length ≤ 400 ∧ j.lengths.l.length = j.below.l.length ∧ j.secs.length ≤ 40 := by
  simp only [jobValid, catValid, Bool.and_eq_true, decide_eq_true_eq] at hv
  omega
/-- A pipe's own cost. -/
def ownC (j : Job) (i s : Nat) : Int := j.lengths.l[i]! * j.secs[s]!.price
theorem ownC_bd {j : Job} (hv : jobValid j = true) {i s : Nat} (hi : i < j.below.l.length) (hs : s < j.secs.length) : 0 ≤ ownC j i s ∧ ownC j i s ≤ B := by
  have h1 : 1 ≤ j.lengths.l[i]! ∧ j.lengths.l[i]! ≤ 16777216 := by
    simp only [jobValid, Bool.and_eq_true, List.all_eq_true, List.mem_range] at hv
    have := hv.2 i hi
    simp only [pipeOk, inR, Bool.and_eq_true, decide_eq_true_eq] at this
    exact this.1.1.1.2
  have h2 : 0 ≤ j.secs[s]!.price ∧ j.secs[s]!.price ≤ 1073741824 := by
    rw [getElem!_pos j.secs s hs]
    simp only [jobValid, catValid, Bool.and_eq_true, List.all_eq_true] at hv
    have := hv.1.2.1.2 _ (List.getElem_mem hs)
    simp only [secValid, Bool.and_eq_true, decide_eq_true_eq] at this
    omega
  have h3 := Int.mul_nonneg (show 0 ≤ j.lengths.l[i]! by omega) h2.1
  have h4 := Int.mul_le_mul h1.2 h2.2 h2.1 (by omega)
  refine ⟨h3, ?_⟩
  unfold ownC B
  omega

/-- Pipe a leads out of the first i pipes. -/
def fr (j : Job) (i a : Nat) : Bool := decide (j.below.l[a]! = -1) || decide ((i : Int) ≤ j.below.l[a]!)
def FS (j : Job) (f : Nat → Int) (i : Nat) : Int := S (fun a => if fr j i a then f a else 0) i
def AS (j : Job) (f : Nat → Int) (i : Nat) : Int := S (fun a => if j.below.l[a]! = (i : Int) then f a else 0) i
theorem above_sum {j : Job} (hv : jobValid j = true) (f : Nat → Int) {i : Nat} (hi : i < j.below.l.length) : ((aboveF j i).map f).sum = AS j f i := by
  unfold aboveF AS
  rw [sum_filter, S_ext (m := i) _ (by omega)]
  · exact S_congr _ (fun a _ => by simp)
  · intro a h1 h2
    rw [if_neg]
    intro h3
    have h3 : j.below.l[a]! = (i : Int) := by simpa using h3
    rcases valid_below hv h2 with h4 | h4 <;> omega
theorem FS_step {j : Job} (hv : jobValid j = true) (f : Nat → Int) {i : Nat} (hi : i < j.below.l.length) : FS j f (i + 1) + AS j f i = FS j f i + f i := by
  unfold FS AS
  simp only [S]
  have h1 : fr j (i + 1) i = true := by
    unfold fr
    rcases valid_below hv hi with h | h
    · simp [h]
    · simp only [Bool.or_eq_true, decide_eq_true_eq]; right; omega
  rw [if_pos h1]
  have h2 : S (fun a => if fr j i a = true then f a else 0) i = S (fun a => (if fr j (i + 1) a = true then f a else 0) + (if j.below.l[a]! = (i : Int) then f a else 0)) i := by
    refine S_congr _ (fun a ha => ?_)
    unfold fr
    by_cases e1 : j.below.l[a]! = (i : Int)
    · rw [if_pos e1, if_pos (by simp only [Bool.or_eq_true, decide_eq_true_eq]; omega), if_neg (by simp only [Bool.or_eq_true, decide_eq_true_eq]; omega)]
      omega
    · rw [if_neg e1]
      by_cases e2 : j.below.l[a]! = -1
      · rw [if_pos (by simp only [Bool.or_eq_true, decide_eq_true_eq]; omega), if_pos (by simp only [Bool.or_eq_true, decide_eq_true_eq]; omega)]
        omega
      · by_cases e3 : (i : Int) ≤ j.below.l[a]!
        · rw [if_pos (by simp only [Bool.or_eq_true, decide_eq_true_eq]; omega), if_pos (by simp only [Bool.or_eq_true, decide_eq_true_eq]; omega)]
          omega
        · rw [if_neg (by simp only [Bool.or_eq_true, decide_eq_true_eq]; omega), if_neg (by simp only [Bool.or_eq_true, decide_eq_true_eq]; omega)]
          omega
  rw [h2, S_add]
  omega
theorem AS_le_FS {j : Job} {f : Nat → Int} {i : Nat} (h : ∀ a, a < i → 0 ≤ f a) : AS j f i ≤ FS j f i := by
  unfold AS FS
  refine S_le _ (fun a ha => ?_)
  have := h a ha
  by_cases e : j.below.l[a]! = (i : Int)
  · rw [if_pos e, if_pos (by simp only [fr, Bool.or_eq_true, decide_eq_true_eq]; omega)]
    exact Int.le_refl _
  · rw [if_neg e]
    split <;> omega
theorem roots_sum {j : Job} (hv : jobValid j = true) (f : Nat → Int) : ((rootsF j).map f).sum = FS j f j.below.l.length := by
  unfold rootsF FS
  rw [sum_filter]
  refine S_congr _ (fun a ha => ?_)
  have e : fr j j.below.l.length a = decide (j.below.l[a]! = -1) := by
    unfold fr
    rcases valid_below hv ha with h | h
    · rw [h]; rfl
    · rw [show decide (((j.below.l.length : Nat) : Int) ≤ j.below.l[a]!) = false by simp only [decide_eq_false_iff_not]; omega, Bool.or_false]
  rw [e]
theorem root_mem {j : Job} {a : Nat} (h : a ∈ rootsF j) : a < j.below.l.length ∧ j.below.l[a]! = -1 := by
  simp only [rootsF, List.mem_filter, List.mem_range, decide_eq_true_eq] at h
  exact h

/-! ### The least value -/
theorem lv_spec (j : Job) (val : Nat → List Int) (h : Int) (a : Nat) : (lv j val h a = -1 ∧ ∀ s, s < (val a).length → (val a)[s]! ≠ -1 → okF j a h s = false) ∨
    ∃ s, s < (val a).length ∧ lv j val h a = (val a)[s]! ∧ (val a)[s]! ≠ -1 ∧ okF j a h s = true ∧ ∀ s', s' < (val a).length → (val a)[s']! ≠ -1 → okF j a h s' = true → (val a)[s]! ≤ (val a)[s']! := by
  unfold lv
  rcases least_spec (okF j a h) (val a) with ⟨h1, h2⟩ | ⟨s, h1, h2, h3, h4, h5⟩
  · exact .inl ⟨by rw [h1], h2⟩
  · exact .inr ⟨s, h1, by rw [h2], h3, h4, h5⟩

def mx (l : List Int) : Int := l.foldl max 0
theorem mx_spec : ∀ (l : List Int) (b : Int), b ≤ l.foldl max b ∧ ∀ x ∈ l, x ≤ l.foldl max b
  | [], b => ⟨Int.le_refl _, by simp⟩
  | y :: l, b => by
    obtain ⟨h1, h2⟩ := mx_spec l (max b y)
    simp only [List.foldl_cons]
    refine ⟨by omega, fun x hx => ?_⟩
    rcases List.mem_cons.1 hx with rfl | hx
    · omega
    · exact h2 x hx
theorem mx_bd {l : List Int} {t : Int} (ht : 0 ≤ t) (h : ∀ x ∈ l, x ≤ t) : mx l ≤ t := by
  unfold mx
  have : ∀ (l : List Int) (b : Int), b ≤ t → (∀ x ∈ l, x ≤ t) → l.foldl max b ≤ t := by
    intro l
    induction l with
    | nil => intro b hb _; exact hb
    | cons y l ih =>
      intro b hb h
      simp only [List.foldl_cons]
      exact ih _ (by have := h y (by simp); omega) (fun x hx => h x (by simp [hx]))
  exact this l 0 ht h

theorem get_mem {l : List Int} {s : Nat} (h : s < l.length) : l[s]! ∈ l := by
  rw [getElem!_pos l s h]; exact List.getElem_mem h

/-- The least value of rows that are -1 or not negative. -/
theorem lv_bd {j : Job} {val : Nat → List Int} {h : Int} {a : Nat} (hp : ∀ x ∈ val a, -1 ≤ x) : lv j val h a = -1 ∨ (0 ≤ lv j val h a ∧ lv j val h a ≤ mx (val a)) := by
  rcases lv_spec j val h a with ⟨h1, _⟩ | ⟨s, h1, h2, h3, _⟩
  · exact .inl h1
  · right
    have h4 := get_mem h1
    have h5 := hp _ h4
    have h6 := (mx_spec (val a) 0).2 _ h4
    rw [h2]
    exact ⟨by omega, h6⟩

/-- A cost that is exact. -/
theorem costF_eq {j : Job} (hv : jobValid j = true) {val : Nat → List Int} {i s : Nat} (hi : i < j.below.l.length) (hs : s < j.secs.length) (hp : ∀ a ∈ aboveF j i, lv j val j.secs[s]!.height a = -1 ∨ 0 ≤ lv j val j.secs[s]!.height a)
    (hb : (∀ a ∈ aboveF j i, lv j val j.secs[s]!.height a ≠ -1) → ((aboveF j i).map (lv j val j.secs[s]!.height)).sum ≤ 9000000000000000000) :
    ((∃ a ∈ aboveF j i, lv j val j.secs[s]!.height a = -1) ∧ costF j val i s = -1) ∨ ((∀ a ∈ aboveF j i, lv j val j.secs[s]!.height a ≠ -1) ∧ costF j val i s = ownC j i s + ((aboveF j i).map (lv j val j.secs[s]!.height)).sum) := by
  obtain ⟨h1, h2⟩ := ownC_bd hv hi hs
  rw [B_eq] at h2
  by_cases hx : ∃ a ∈ aboveF j i, lv j val j.secs[s]!.height a = -1
  · obtain ⟨a, ha, h3⟩ := hx
    exact .inl ⟨⟨a, ha, h3⟩, by unfold costF; rw [sumG_bad ha h3]; rfl⟩
  · right
    have hx' : ∀ a ∈ aboveF j i, lv j val j.secs[s]!.height a ≠ -1 := fun a ha e => hx ⟨a, ha, e⟩
    refine ⟨hx', ?_⟩
    have := hb hx'
    show (sumG _ _ (IntKind.wrap .i64 (ownC j i s))).getD (-1) = _
    rw [wrap_i64 (m := ownC j i s) rfl (by omega), sumG_eq hx' (fun a ha => (hp a ha).resolve_left (hx' a ha)) h1 (by omega)]
    rfl

theorem list_sum_nn {l : List Nat} {f : Nat → Int} (h : ∀ a ∈ l, 0 ≤ f a) : 0 ≤ (l.map f).sum := by
  induction l with
  | nil => simp
  | cons x l ih =>
    simp only [List.map_cons, List.sum_cons]
    have := h x (by simp)
    have := ih (fun a ha => h a (by simp [ha]))
    omega
theorem list_sum_le {l : List Nat} {f g : Nat → Int} (h : ∀ a ∈ l, f a ≤ g a) : (l.map f).sum ≤ (l.map g).sum := by
  induction l with
  | nil => simp
  | cons x l ih =>
    simp only [List.map_cons, List.sum_cons]
    have := h x (by simp)
    have := ih (fun a ha => h a (by simp [ha]))
    omega

/-- The values are -1 or not negative, and not too great. -/
theorem vals_bd {j : Job} (hv : jobValid j = true) : ∀ i, i ≤ j.below.l.length → (∀ a, a < i → ∀ x ∈ valN j a, -1 ≤ x) ∧ FS j (fun a => mx (valN j a)) i ≤ i * B
  | 0, _ => ⟨fun a h => by omega, by simp [FS, S]⟩
  | i + 1, hi => by
    obtain ⟨h1, h2⟩ := vals_bd hv i (by omega)
    have hil : i < j.below.l.length := by omega
    have hn := (valid_facts hv).1
    have hm0 : ∀ a, a < i → 0 ≤ mx (valN j a) := fun a _ => (mx_spec (valN j a) 0).1
    have h3 := AS_le_FS (j := j) (f := fun a => mx (valN j a)) hm0
    have hsum := above_sum hv (fun a => mx (valN j a)) hil
    have hB : (i : Int) * B ≤ 400 * B := Int.mul_le_mul_of_nonneg_right (by omega) (by rw [B_eq]; omega)
    have hcell : ∀ s, s < j.secs.length → (-1 ≤ (valN j i)[s]! ∧ (valN j i)[s]! ≤ B + AS j (fun a => mx (valN j a)) i) := by
      intro s hs
      have hAS0 : 0 ≤ AS j (fun a => mx (valN j a)) i := S_nonneg _ (fun a ha => by split; exact hm0 a ha; exact Int.le_refl _)
      rw [valN_at hv hil hs]
      split
      · have hlv : ∀ a ∈ aboveF j i, lv j (valN j) j.secs[s]!.height a = -1 ∨ (0 ≤ lv j (valN j) j.secs[s]!.height a ∧ lv j (valN j) j.secs[s]!.height a ≤ mx (valN j a)) := fun a ha => lv_bd (h1 a (above_less hv ha))
        have hle : (∀ a ∈ aboveF j i, lv j (valN j) j.secs[s]!.height a ≠ -1) → ((aboveF j i).map (lv j (valN j) j.secs[s]!.height)).sum ≤ AS j (fun a => mx (valN j a)) i := fun hne => by
          rw [← hsum]
          exact list_sum_le (fun a ha => ((hlv a ha).resolve_left (hne a ha)).2)
        have hnn : (∀ a ∈ aboveF j i, lv j (valN j) j.secs[s]!.height a ≠ -1) → 0 ≤ ((aboveF j i).map (lv j (valN j) j.secs[s]!.height)).sum := fun hne => by
          exact list_sum_nn (fun a ha => ((hlv a ha).resolve_left (hne a ha)).1)
        obtain ⟨o1, o2⟩ := ownC_bd hv hil hs
        rw [B_eq] at *
        rcases costF_eq hv hil hs (fun a ha => (hlv a ha).imp id (fun h => h.1)) (fun hne => by have := hle hne; omega) with ⟨_, h4⟩ | ⟨hne, h4⟩
        · rw [h4]; omega
        · rw [h4]
          have := hle hne
          have := hnn hne
          omega
      · rw [B_eq]; omega
    have hrow : ∀ x ∈ valN j i, ∃ s, s < j.secs.length ∧ x = (valN j i)[s]! := fun x hx => by
      obtain ⟨s, hs, rfl⟩ := List.mem_iff_getElem.1 hx
      exact ⟨s, by rw [valN_len hil] at hs; exact hs, by rw [getElem!_pos _ s hs]⟩
    constructor
    · intro a ha x hx
      rcases Nat.lt_succ_iff_lt_or_eq.1 ha with h | rfl
      · exact h1 a h x hx
      · obtain ⟨s, hs, rfl⟩ := hrow x hx
        exact (hcell s hs).1
    · have h5 := FS_step hv (fun a => mx (valN j a)) hil
      have hAS0 : 0 ≤ AS j (fun a => mx (valN j a)) i := S_nonneg _ (fun a ha => by split; exact hm0 a ha; exact Int.le_refl _)
      have h6 : mx (valN j i) ≤ B + AS j (fun a => mx (valN j a)) i := mx_bd (by rw [B_eq]; omega) (fun x hx => by
        obtain ⟨s, hs, rfl⟩ := hrow x hx
        exact (hcell s hs).2)
      rw [B_eq] at *
      push_cast
      omega
end Go.Gv
namespace Go.Gv
/-- The job's values, as they are handed over. -/
def valsS (j : Job) : List SlI := (List.range j.below.l.length).map fun a => ⟨false, valN j a⟩
theorem valsS_at {j : Job} {a : Nat} (h : a < j.below.l.length) : rowsF (valsS j) a = valN j a := by
  unfold rowsF valsS
  rw [getElem!_pos _ a (by simpa using h)]
  simp

/-- What is known of the values of a valid job. -/
theorem vals_cell {j : Job} (hv : jobValid j = true) {i : Nat} (hi : i < j.below.l.length) : ∀ x ∈ valN j i, -1 ≤ x := (vals_bd hv (i + 1) (by omega)).1 i (by omega)
theorem vals_mx {j : Job} (hv : jobValid j = true) {i : Nat} (hi : i < j.below.l.length) : mx (valN j i) ≤ j.below.l.length * B := by
  have h1 := (vals_bd hv (i + 1) (by omega)).2
  have h2 : mx (valN j i) ≤ FS j (fun a => mx (valN j a)) (i + 1) := by
    have h3 := FS_step hv (fun a => mx (valN j a)) hi
    have h4 := AS_le_FS (j := j) (i := i) (f := fun a => mx (valN j a)) (fun a _ => (mx_spec (valN j a) 0).1)
    omega
  have h5 : ((i + 1 : Nat) : Int) * B ≤ j.below.l.length * B := Int.mul_le_mul_of_nonneg_right (by omega) (by rw [B_eq]; omega)
  omega
theorem lvN_bd {j : Job} (hv : jobValid j = true) {h : Int} {a : Nat} (ha : a < j.below.l.length) : lv j (valN j) h a = -1 ∨ (0 ≤ lv j (valN j) h a ∧ lv j (valN j) h a ≤ mx (valN j a)) := lv_bd (vals_cell hv ha)
theorem sum_above_bd {j : Job} (hv : jobValid j = true) {h : Int} {i : Nat} (hi : i < j.below.l.length) (hne : ∀ a ∈ aboveF j i, lv j (valN j) h a ≠ -1) : ((aboveF j i).map (lv j (valN j) h)).sum ≤ 7205759403792793600 := by
  have h1 := list_sum_le (fun a ha => ((lvN_bd hv (above_lt ha)).resolve_left (hne a ha)).2)
  rw [above_sum hv (fun a => mx (valN j a)) hi] at h1
  have h2 := AS_le_FS (j := j) (i := i) (f := fun a => mx (valN j a)) (fun a _ => (mx_spec (valN j a) 0).1)
  have h3 := (vals_bd hv i (by omega)).2
  have hn := (valid_facts hv).1
  have h4 : (i : Int) * B ≤ 400 * B := Int.mul_le_mul_of_nonneg_right (by omega) (by rw [B_eq]; omega)
  rw [B_eq] at h4 h3
  omega
/-- A value of a job. -/
theorem valN_eq' {j : Job} (hv : jobValid j = true) {i s : Nat} (hi : i < j.below.l.length) (hs : s < j.secs.length) (hp : possAt j i s = true) :
    ((∃ a ∈ aboveF j i, lv j (valN j) j.secs[s]!.height a = -1) ∧ (valN j i)[s]! = -1) ∨ ((∀ a ∈ aboveF j i, lv j (valN j) j.secs[s]!.height a ≠ -1) ∧ (valN j i)[s]! = ownC j i s + ((aboveF j i).map (lv j (valN j) j.secs[s]!.height)).sum) := by
  rw [valN_at hv hi hs, if_pos hp]
  exact costF_eq hv hi hs (fun a ha => (lvN_bd hv (above_lt ha)).imp id (fun h => h.1)) (fun hne => by have := sum_above_bd hv hi hne; omega)
/-- The bound of a job's values. -/
theorem costB_eq {j : Job} (hv : jobValid j = true) : ((∃ a ∈ rootsF j, lv j (valN j) 4194304 a = -1) ∧ costB j = -1) ∨ ((∀ a ∈ rootsF j, lv j (valN j) 4194304 a ≠ -1) ∧ costB j = ((rootsF j).map (lv j (valN j) 4194304)).sum ∧ 0 ≤ costB j) := by
  unfold costB boundF
  by_cases hx : ∃ a ∈ rootsF j, lv j (valN j) 4194304 a = -1
  · obtain ⟨a, ha, h3⟩ := hx
    exact .inl ⟨⟨a, ha, h3⟩, by rw [sumG_bad ha h3]; rfl⟩
  · right
    have hx' : ∀ a ∈ rootsF j, lv j (valN j) 4194304 a ≠ -1 := fun a ha e => hx ⟨a, ha, e⟩
    have h1 : ∀ a ∈ rootsF j, 0 ≤ lv j (valN j) 4194304 a ∧ lv j (valN j) 4194304 a ≤ mx (valN j a) := fun a ha => (lvN_bd hv (root_mem ha).1).resolve_left (hx' a ha)
    have h2 := list_sum_le (fun a ha => (h1 a ha).2)
    rw [roots_sum hv (fun a => mx (valN j a))] at h2
    have h3 := (vals_bd hv _ (Nat.le_refl _)).2
    have hn := (valid_facts hv).1
    have h4 : (j.below.l.length : Int) * B ≤ 400 * B := Int.mul_le_mul_of_nonneg_right (by omega) (by rw [B_eq]; omega)
    rw [B_eq] at h4 h3
    refine ⟨hx', ?_⟩
    rw [sumG_eq hx' (fun a ha => (h1 a ha).1) (Int.le_refl _) (by omega)]
    simp only [Option.getD_some, Int.zero_add]
    exact ⟨trivial, list_sum_nn (fun a ha => (h1 a ha).1)⟩

/-- The values of a job that is not large pass. -/
theorem checked_own {j : Job} (hv : jobValid j = true) (hn : j.below.l.length ≤ 12) : checkedF j (valsS j) = (true, costB j, 0) := by
  have hlen : (valsS j).length = j.below.l.length := by simp [valsS]
  have hmem : ∀ x ∈ valsS j, ∃ a, a < j.below.l.length ∧ x.l = valN j a := fun x hx => by
    obtain ⟨a, ha, rfl⟩ := List.mem_map.1 hx
    exact ⟨a, by simpa using ha, rfl⟩
  have c1 : ∀ i s, i < j.below.l.length → s < j.secs.length → possAt j i s = true → costF j (rowsF (valsS j)) i s = (valN j i)[s]! := fun i s hi hs hp => by
    rw [valN_at hv hi hs, if_pos hp]
    exact costF_congr (fun a ha => valsS_at (above_lt ha))
  have hb : ∀ i, i < j.below.l.length → badP j (valsS j) i = false := fun i hi => by
    rw [badP, List.any_eq_false]
    intro s hs
    have hs : s < j.secs.length := by simpa using hs
    rw [badV]
    cases hp : possAt j i s with
    | false => simp
    | true =>
      rw [c1 i s hi hs hp, valsS_at hi]
      by_cases e : (valN j i)[s]! = -1
      · rw [e]; simp
      · simp only [Bool.true_and, Bool.or_eq_true, Bool.and_eq_true, decide_eq_true_eq, Bool.not_eq_true', decide_eq_false_iff_not, not_or, not_and]
        exact ⟨fun h => absurd h e, fun _ => ⟨e, by omega⟩⟩
  have hnone : (List.range j.below.l.length).find? (badP j (valsS j)) = none := by
    rw [List.find?_eq_none]
    intro k hk
    rw [hb k (by simpa using hk)]; simp
  have hB : boundF j (rowsF (valsS j)) = costB j := by
    unfold costB boundF
    rw [sumG_congr (v' := lv j (valN j) 4194304) (fun a ha => by rw [lv, lv, valsS_at (root_mem ha).1])]
  unfold checkedF
  rw [if_neg (by rw [hv]; simp), if_neg, if_neg, hnone, hB]
  · rw [Bool.not_eq_true, List.any_eq_false]
    intro x hx
    obtain ⟨a, ha, e⟩ := hmem x hx
    rw [e, Bool.not_eq_true, List.any_eq_false]
    intro y hy
    have h1 := vals_cell hv ha y hy
    have h2 := (mx_spec (valN j a) 0).2 y hy
    have h3 := vals_mx hv ha
    have h4 : (j.below.l.length : Int) * B ≤ 12 * B := Int.mul_le_mul_of_nonneg_right (by omega) (by rw [B_eq]; omega)
    have h5 : y ≤ mx (valN j a) := h2
    rw [B_eq] at h4 h3
    simp [wideV]
    omega
  · rintro (h | h)
    · exact h hlen
    · rw [List.any_eq_true] at h
      obtain ⟨x, hx, h⟩ := h
      obtain ⟨a, ha, e⟩ := hmem x hx
      rw [e, valN_len ha] at h
      simp at h

/-- Right values have no greater bound. -/
theorem checked_le {j : Job} (hv : jobValid j = true) (hn : j.below.l.length ≤ 12) {vals : List SlI} (hw : ∀ x ∈ vals, ∀ y ∈ x.l, y ≤ 288230376151711744) {n : Int} (hc : checkedF j vals = (true, n, 0)) (hB : costB j ≠ -1) : n ≤ costB j ∧ 0 ≤ n := by
  unfold checkedF at hc
  rw [if_neg (by rw [hv]; simp)] at hc
  split at hc
  · cases hc
  rename_i h1
  split at hc
  · cases hc
  rename_i h2
  have hlen : vals.length = j.below.l.length := Classical.byContradiction fun e => h1 (.inl e)
  have hrow : ∀ a, a < j.below.l.length → rowsF vals a = vals[a]!.l ∧ vals[a]! ∈ vals := fun a ha => ⟨rfl, by rw [getElem!_pos vals a (by omega)]; exact List.getElem_mem _⟩
  have hrl : ∀ a, a < j.below.l.length → (rowsF vals a).length = j.secs.length := fun a ha => Classical.byContradiction fun e => h1 (.inr (List.any_eq_true.2 ⟨_, (hrow a ha).2, by simpa [rowsF] using e⟩))
  have hcell : ∀ a, a < j.below.l.length → ∀ y ∈ rowsF vals a, -1 ≤ y ∧ y ≤ 288230376151711744 := fun a ha y hy => by
    refine ⟨?_, hw _ (hrow a ha).2 y hy⟩
    rw [Bool.not_eq_true, List.any_eq_false] at h2
    have := h2 _ (hrow a ha).2
    rw [Bool.not_eq_true, List.any_eq_false] at this
    have := this y hy
    simp [wideV] at this
    omega
  have hgood : ∀ i s, i < j.below.l.length → s < j.secs.length → badV j vals i s = false := fun i s hi hs => by
    cases hf : (List.range j.below.l.length).find? (badP j vals) with
    | some k => rw [hf] at hc; cases hc
    | none =>
      rw [List.find?_eq_none] at hf
      have := hf i (by simpa using hi)
      rw [Bool.not_eq_true, badP, List.any_eq_false] at this
      have := this s (by simpa using hs)
      simpa using this
  have hbn : boundF j (rowsF vals) = n := by
    cases hf : (List.range j.below.l.length).find? (badP j vals) with
    | some k => rw [hf] at hc; cases hc
    | none => rw [hf] at hc; simpa using hc
  have hlw : ∀ h a, a < j.below.l.length → lv j (rowsF vals) h a = -1 ∨ (0 ≤ lv j (rowsF vals) h a ∧ lv j (rowsF vals) h a ≤ 288230376151711744) := fun h a ha => by
    rcases lv_spec j (rowsF vals) h a with ⟨e, _⟩ | ⟨s, e1, e2, e3, _⟩
    · exact .inl e
    · right
      have := hcell a ha _ (get_mem e1)
      rw [e2]
      omega
  have cnt : ∀ (l : List Nat) (f : Nat → Int), (∀ a ∈ l, f a ≤ 288230376151711744) → (l.map f).sum ≤ l.length * 288230376151711744 := by
    intro l f
    induction l with
    | nil => intro _; simp
    | cons x l ih =>
      intro h
      simp only [List.map_cons, List.sum_cons, List.length_cons]
      have := h x (by simp)
      have := ih (fun a ha => h a (by simp [ha]))
      push_cast
      omega
  -- cell by cell
  have key : ∀ i, i < j.below.l.length → ∀ s, s < j.secs.length → possAt j i s = true → (valN j i)[s]! ≠ -1 → (rowsF vals i)[s]! ≠ -1 ∧ (rowsF vals i)[s]! ≤ (valN j i)[s]! := by
    intro i
    induction i using Nat.strongRecOn with
    | _ i ih =>
      intro hi s hs hp hne
      rcases valN_eq' hv hi hs hp with ⟨_, e⟩ | ⟨e1, e2⟩
      · exact absurd e hne
      have hl : ∀ a ∈ aboveF j i, lv j (rowsF vals) j.secs[s]!.height a ≠ -1 ∧ lv j (rowsF vals) j.secs[s]!.height a ≤ lv j (valN j) j.secs[s]!.height a := fun a ha => by
        have hal := above_lt ha
        rcases lv_spec j (valN j) j.secs[s]!.height a with ⟨f1, _⟩ | ⟨s', f1, f2, f3, f4, _⟩
        · exact absurd f1 (e1 a ha)
        · have hs' : s' < j.secs.length := by rw [valN_len hal] at f1; exact f1
          have hpos : possAt j a s' = true := by simp only [okF, Bool.and_eq_true] at f4; exact f4.1
          obtain ⟨g1, g2⟩ := ih a (above_less hv ha) hal s' hs' hpos f3
          rcases lv_spec j (rowsF vals) j.secs[s]!.height a with ⟨_, f5⟩ | ⟨s'', k1, k2, k3, k4, k5⟩
          · have := f5 s' (by rw [hrl a hal]; exact hs') g1
            rw [this] at f4; cases f4
          · have := k5 s' (by rw [hrl a hal]; exact hs') g1 f4
            rw [k2, f2]
            exact ⟨k3, by omega⟩
      have hle : (aboveF j i).length ≤ 12 := by have := above_len j i; omega
      have hsum := cnt (aboveF j i) (lv j (rowsF vals) j.secs[s]!.height) (fun a ha => ((hlw _ a (above_lt ha)).resolve_left (hl a ha).1).2)
      rcases costF_eq hv (val := rowsF vals) hi hs (fun a ha => (hlw _ a (above_lt ha)).imp id (fun h => h.1)) (fun _ => by omega) with ⟨⟨a, ha, f⟩, _⟩ | ⟨_, f⟩
      · exact absurd f (hl a ha).1
      have hg := hgood i s hi hs
      rw [badV, hp, f] at hg
      have ho := (ownC_bd hv hi hs).1
      have hnn : 0 ≤ ((aboveF j i).map (lv j (rowsF vals) j.secs[s]!.height)).sum := list_sum_nn (fun a ha => ((hlw _ a (above_lt ha)).resolve_left (hl a ha).1).1)
      have hne' : ¬ (ownC j i s + ((aboveF j i).map (lv j (rowsF vals) j.secs[s]!.height)).sum = -1) := by omega
      have hcmp := list_sum_le (fun a ha => (hl a ha).2)
      rw [show decide (ownC j i s + ((aboveF j i).map (lv j (rowsF vals) j.secs[s]!.height)).sum = -1) = false by simp only [decide_eq_false_iff_not]; exact hne'] at hg
      simp only [Bool.true_and, Bool.false_and, Bool.false_or, Bool.not_false, Bool.or_eq_false_iff, decide_eq_false_iff_not] at hg
      rw [e2]
      exact ⟨hg.1, by omega⟩
  rcases costB_eq hv with ⟨_, e⟩ | ⟨e1, e2, e3⟩
  · exact absurd e hB
  have hl : ∀ a ∈ rootsF j, lv j (rowsF vals) 4194304 a ≠ -1 ∧ lv j (rowsF vals) 4194304 a ≤ lv j (valN j) 4194304 a := fun a ha => by
    have hal := (root_mem ha).1
    rcases lv_spec j (valN j) 4194304 a with ⟨f1, _⟩ | ⟨s', f1, f2, f3, f4, _⟩
    · exact absurd f1 (e1 a ha)
    · have hs' : s' < j.secs.length := by rw [valN_len hal] at f1; exact f1
      have hpos : possAt j a s' = true := by simp only [okF, Bool.and_eq_true] at f4; exact f4.1
      obtain ⟨g1, g2⟩ := key a hal s' hs' hpos f3
      rcases lv_spec j (rowsF vals) 4194304 a with ⟨_, f5⟩ | ⟨s'', k1, k2, k3, k4, k5⟩
      · have := f5 s' (by rw [hrl a hal]; exact hs') g1
        rw [this] at f4; cases f4
      · have := k5 s' (by rw [hrl a hal]; exact hs') g1 f4
        rw [k2, f2]
        exact ⟨k3, by omega⟩
  have hle : (rootsF j).length ≤ 12 := by
    have := List.length_filter_le (fun a => decide (j.below.l[a]! = -1)) (List.range j.below.l.length)
    simp only [List.length_range] at this
    unfold rootsF
    omega
  have hsum := cnt (rootsF j) (lv j (rowsF vals) 4194304) (fun a ha => ((hlw _ a (root_mem ha).1).resolve_left (hl a ha).1).2)
  have hnn := list_sum_nn (fun a ha => ((hlw 4194304 a (root_mem ha).1).resolve_left (hl a ha).1).1)
  have hcmp := list_sum_le (fun a ha => (hl a ha).2)
  rw [← hbn, boundF, sumG_eq (fun a ha => (hl a ha).1) (fun a ha => ((hlw _ a (root_mem ha).1).resolve_left (hl a ha).1).1) (Int.le_refl _) (by omega)]
  simp only [Option.getD_some, Int.zero_add]
  omega
end Go.Gv

set_option linter.unusedSimpArgs false
namespace Go.Gv
variable {C : CC} (hC : Closed prog C)
include hC
theorem rDigit_c (c : Int) : C 78 [.int .u8 c] (.bool (isDigit c)) [] := by
  refine start hC (nf := N78_ref01_Digit) rfl rfl ?_
  simp [N78_ref01_Digit, isDigit]
  refine brB_of (fun h => ?_) (fun h => ?_) <;> simp at h <;> simp [h] <;> omega
theorem rLetter_c (c : Int) : C 62 [.int .u8 c] (.bool (isLetter c)) [] := by
  refine start hC (nf := N62_ref01_Letter) rfl rfl ?_
  simp [N62_ref01_Letter, isLetter]
  repeat' (refine brB_of (fun h => ?_) (fun h => ?_) <;> simp at h <;> simp [h] <;> try omega)
theorem rword_c (s : List UInt8) (hs : s.length < 2 ^ 62) : C 63 [.str s, .int .i64 0] (.int .i64 (wordLen s)) [] := by
  refine start hC (nf := N63_ref01_word) rfl rfl ?_
  simp [N63_ref01_word]
  refine loop_of Nat (fun i => [(0, .str s), (1, .int .i64 i)]) (fun i => i ≤ wordLen s) (fun i => wordLen s - i) 0 (by simp) (by simp) ?_
  intro i hi
  have hle : wordLen s ≤ s.length := wordLen_le s
  by_cases hl : i < s.length
  · simp [hl]
    refine callW_of (rLetter_c hC _) (.inl rfl) ?_
    have hstep : isWordB s[i] = true → i + 1 ≤ wordLen s := wordLen_more hl hi
    have hstop : isWordB s[i] = false → i = wordLen s := wordLen_stop hl hi
    simp only [isWordB] at hstep hstop
    have hw : IntKind.wrap .i64 ((i : Int) + 1) = ((i + 1 : Nat) : Int) := wrap_i64 (by omega) (by omega)
    cases h1 : isLetter s[i].toNat with
    | true => 
      simp [h1, hw] at hstep ⊢
      exact ⟨i + 1, by omega, by omega, rfl⟩
    | false =>
      simp [h1, hl]
      refine callW_of (rDigit_c hC _) (.inl rfl) ?_
      cases h2 : isDigit s[i].toNat with
      | true =>
        simp [h1, h2, hw] at hstep ⊢
        exact ⟨i + 1, by omega, by omega, rfl⟩
      | false =>
        simp [hl]
        refine brB_of (fun h3 => ?_) (fun h3 => ?_) <;> simp at h3
        · simp [hw, hl]
          have := hstep (by simp [show s[i].toNat = 95 by omega])
          exact ⟨i + 1, this, by omega, rfl⟩
        · have h4 : ¬ s[i].toNat = 95 := by omega
          simp [h1, h2, h4] at hstop ⊢
          omega
  · simp [hl]
    have : i = wordLen s := by omega
    omega
theorem rIsName_c (s : List UInt8) : C 54 [.str s] (.bool (isName s)) [] := by
  refine start hC (nf := N54_ref01_IsName) rfl rfl ?_
  simp [N54_ref01_IsName]
  refine brB_of (fun h => ?_) (fun h => ?_) <;> simp at h
  · subst h
    simp [isName]
  · have hp : 0 < s.length := List.length_pos_iff.2 h
    simp [h, hp]
    refine brB_of (fun h2 => ?_) (fun h2 => ?_) <;> simp at h2
    · simp [h2, isName]
      omega
    · simp [h2, hp]
      refine callW_of (rLetter_c hC _) (.inl rfl) ?_
      simp
      cases h3 : isLetter s[0].toNat
      · simp [h3, isName, h, hp]
      · simp [h3, h2]
        refine callW_of (rword_c hC s (by omega)) (.inl rfl) ?_
        simp [isName, h, h3, show s.length ≤ 20 by omega, hp, Int.ofNat_inj]
        rw [Bool.eq_iff_iff]; simp
theorem rNumber_c (n : Int) : C 79 [.int .i64 n] (.bool (fits n)) [] := by
  refine start hC (nf := N79_ref06_Number) rfl rfl ?_
  simp [N79_ref06_Number, fits]
  refine brB_of (fun h => ?_) (fun h => ?_) <;> simp at h <;> simp [h] <;> omega
theorem rTable_c (b : Bool) (t : List (Int × Int)) : C 64 [slx b (t.map knD)] (.bool (tableValid t)) [] := by
  refine start hC (nf := N64_ref06_Valid) rfl rfl ?_
  simp [N64_ref06_Valid]
  refine brB_of (fun h => ?_) (fun h => ?_) <;> simp at h
  · simp [tableValid, show t.length = 0 by omega]
  simp [h]
  refine brB_of (fun h2 => ?_) (fun h2 => ?_) <;> simp at h2
  · simp [tableValid, h, h2]
    omega
  simp
  refine loop_of Nat (fun i => [(0, slx b (t.map knD)), (3, .int .i64 i)]) (fun i => i ≤ t.length ∧ ∀ j < i, okAt t j = true) (fun i => t.length - i) 0 (by simp) (by simp) ?_
  rintro i ⟨hi, hj⟩
  simp
  refine brB_of (fun h3 => ?_) (fun h3 => ?_) <;> simp at h3
  · have bad : okAt t i = false → tableValid t = false := fun hb => by
      simp only [tableValid, Bool.and_eq_false_iff, List.all_eq_false]
      exact .inr ⟨i, by simpa using h3, by simp [hb]⟩
    have e1 : t[i]! = t[i] := getElem!_pos t i h3
    have e2 : t[i - 1]! = t[i - 1] := getElem!_pos t (i - 1) (by omega)
    simp only [okAt, e1, e2] at bad
    have hw1 : IntKind.wrap .i64 ((i : Int) + 1) = ((i + 1 : Nat) : Int) := wrap_i64 (by omega) (by omega)
    have next : okAt t i = true → ∃ s' : Nat, (s' ≤ t.length ∧ ∀ j < s', okAt t j = true) ∧ t.length - s' < t.length - i ∧ s' = i + 1 := fun ho =>
      ⟨i + 1, ⟨by omega, fun j hjj => by
        rcases Nat.lt_succ_iff_lt_or_eq.1 hjj with h | rfl
        · exact hj j h
        · exact ho⟩, by omega, rfl⟩
    simp only [okAt, e1, e2] at next
    simp [h3, knD]
    refine callW_of (rNumber_c hC _) (.inl rfl) ?_
    cases f1 : fits t[i].1
    · simp
      exact bad (by simp [f1])
    simp [h3, knD]
    refine callW_of (rNumber_c hC _) (.inl rfl) ?_
    cases f2 : fits t[i].2
    · simp
      exact bad (by simp [f2])
    simp [h3, knD]
    refine brB_of (fun h4 => ?_) (fun h4 => ?_) <;> simp at h4
    · have hw : IntKind.wrap .i64 ((i : Int) - 1) = ((i - 1 : Nat) : Int) := wrap_i64 (by omega) (by omega)
      have h5 : i - 1 < t.length := by omega
      simp [h4, hw, h5, h3, knD]
      refine brB_of (fun h6 => ?_) (fun h6 => ?_) <;> simp [h6, hw, h5, h3, knD] <;> simp at h6
      · refine ⟨indW_of (by decide +kernel), bad ?_⟩
        simp [f1, f2]
        omega
      · refine ⟨indW_of (by decide +kernel), ?_⟩
        refine brB_of (fun h7 => ?_) (fun h7 => ?_) <;> simp [h7, hw1] <;> simp at h7
        · refine bad ?_
          simp [f1, f2]
          omega
        · obtain ⟨s', g1, g2, rfl⟩ := next (by simp [f1, f2, h6, h7])
          exact ⟨_, g1, g2, rfl⟩
    · have hi0 : i = 0 := by omega
      subst hi0
      simp at hw1
      simp [hw1]
      refine ⟨indW_of (by decide +kernel), ?_⟩
      obtain ⟨s', g1, g2, rfl⟩ := next (by simp [f1, f2])
      exact ⟨_, g1, g2, rfl⟩
  · have : i = t.length := by omega
    subst this
    simp [tableValid, h, h2]
    exact ⟨⟨by omega, by omega⟩, hj⟩
end Go.Gv

set_option linter.unusedSimpArgs false
namespace Go.Gv

def nameIs (nm : List UInt8) (s : Sec) : Bool := s.name == nm
/-- A catalogue is valid if each section is, and is the first one with its name. -/
theorem catValid_iff (l : List Sec) : catValid l = true ↔ l.length ≤ 40 ∧ (∀ (i : Nat) (h : i < l.length), secValid l[i] = true ∧ idxD (nameIs l[i].name) l = i) := by
  simp only [catValid, Bool.and_eq_true, decide_eq_true_eq, List.all_eq_true]
  constructor
  · rintro ⟨⟨h1, h2⟩, h3⟩
    refine ⟨h1, fun i h => ⟨h2 _ (List.getElem_mem h), ?_⟩⟩
    refine idxD_step (fun k hk hki => ?_) h (by simp [nameIs])
    rw [nameIs, beq_eq_false_iff_ne]
    intro e
    exact List.pairwise_iff_getElem.1 h3 k i (by simpa using hk) (by simpa using h) hki (by simpa using e)
  · rintro ⟨h1, h2⟩
    refine ⟨⟨h1, fun x hx => ?_⟩, ?_⟩
    · obtain ⟨i, h, rfl⟩ := List.getElem_of_mem hx
      exact (h2 i h).1
    · refine List.pairwise_iff_getElem.2 fun a b ha hb hab e => ?_
      simp only [List.length_map] at ha hb
      simp only [List.getElem_map] at e
      have h3 := (h2 b hb).2
      have h4 : ∃ k, k ≤ a ∧ idxD (nameIs l[b].name) l = (k : Int) := by
        unfold idxD
        cases hf : l.findIdx? (nameIs l[b].name) with
        | none =>
          rw [List.findIdx?_eq_none_iff] at hf
          have := hf l[a] (List.getElem_mem _)
          simp [nameIs, e] at this
        | some k =>
          refine ⟨k, ?_, rfl⟩
          rw [List.findIdx?_eq_some_iff_getElem] at hf
          obtain ⟨q1, q2, q3⟩ := hf
          rcases Nat.lt_or_ge a k with hak | hak
          · exact absurd (by simp [nameIs, e]) (q3 a hak)
          · exact hak
      obtain ⟨k, h5, h6⟩ := h4
      omega

variable {C : CC} (hC : Closed prog C)
include hC
theorem rfits_c (b : Bool) (t : List (Int × Int)) (hgt most : Int) : C 55 [slx b (t.map knD), .int .i64 hgt, .int .i64 most] (.bool (curveOk t hgt most)) [] := by
  refine start hC (nf := N55_ref28_fits) rfl rfl ?_
  simp [N55_ref28_fits]
  refine callW_of (rTable_c hC b t) (.inl rfl) ?_
  cases hv : tableValid t
  · simp [curveOk, hv]
  obtain ⟨l1, l2⟩ := valid_len hv
  obtain ⟨n, hn⟩ : ∃ n, n + 1 = t.length := ⟨t.length - 1, by omega⟩
  have e1 : IntKind.wrap .i64 ((t.length : Int) - 1) = (n : Int) := wrap_i64 (by omega) (by omega)
  have hnl : n < t.length := by omega
  have h0 : 0 < t.length := by omega
  have e0 : t[0]! = t[0] := getElem!_pos t 0 h0
  simp [e1, hnl, h0, knD]
  rw [curveOk, lastK_get hn, e0, hv]
  refine brB_of (fun c => ?_) (fun c => ?_) <;> simp [h0, knD] at c <;> simp [c, h0, hnl, knD]
  refine brB_of (fun c2 => ?_) (fun c2 => ?_) <;> simp [h0, knD] at c2 <;> simp [c2, h0, hnl, knD]
  refine brB_of (fun c3 => ?_) (fun c3 => ?_) <;> simp [h0, knD] at c3 <;> simp [c3, h0, hnl, knD]
  exact fun _ => ⟨c, c2⟩
theorem rRight_c (s : Sec) : C 48 [.agg (secC s)] (.bool (secValid s)) [] := by
  refine start hC (nf := N48_ref28_Right) rfl rfl ?_
  simp [N48_ref28_Right, secC]
  refine callW_of (rIsName_c hC s.name) (.inl rfl) ?_
  cases h1 : isName s.name
  · simp [secValid, h1]
  simp
  refine brB_of (fun c1 => ?_) (fun c1 => ?_) <;> simp [c1] <;> simp at c1
  · simp [secValid]; omega
  refine brB_of (fun c2 => ?_) (fun c2 => ?_) <;> simp [c2] <;> simp at c2
  · simp [secValid]; omega
  refine brB_of (fun c3 => ?_) (fun c3 => ?_) <;> simp [c3] <;> simp at c3
  · simp [secValid]; omega
  refine brB_of (fun c4 => ?_) (fun c4 => ?_) <;> simp [c4] <;> simp at c4
  · simp [secValid]; omega
  refine callW_of (rfits_c hC _ _ _ _) (.inl rfl) ?_
  cases h5 : curveOk s.area s.height 1073741824
  · simp [secValid, h5]
  simp
  refine callW_of (rfits_c hC _ _ _ _) (.inl rfl) ?_
  have d1 : 1 ≤ s.height := by omega
  simp [secValid, h1, d1, c2, c3, c4, h5]
theorem rFind_c (b : Bool) (l : List Sec) (nm : List UInt8) (hl : l.length < 2 ^ 62) : C 49 [slx b (l.map secC), .str nm] (.int .i64 (idxD (nameIs nm) l)) [] := by
  refine start hC (nf := N49_ref28_Find) rfl rfl ?_
  simp [N49_ref28_Find]
  refine loop_of Nat (fun i => [(0, slx b (l.map secC)), (1, .str nm), (5, .int .i64 i)]) (fun i => i ≤ l.length ∧ ∀ (k : Nat) (h : k < l.length), k < i → nameIs nm l[k] = false) (fun i => l.length - i) 0 (by simp) (by simp) ?_
  rintro i ⟨hi, hj⟩
  simp
  refine brB_of (fun h => ?_) (fun h => ?_) <;> simp at h <;> simp [h]
  · have hw : IntKind.wrap .i64 ((i : Int) + 1) = ((i + 1 : Nat) : Int) := wrap_i64 (by omega) (by omega)
    simp [h, secC]
    refine brB_of (fun h2 => ?_) (fun h2 => ?_) <;> simp at h2 <;> simp [h2, hw]
    · rw [idxD_step hj h (by simp [nameIs, h2])]
    · refine ⟨i + 1, ⟨by omega, fun k hk hki => ?_⟩, by omega, by simp⟩
      rcases Nat.lt_succ_iff_lt_or_eq.1 hki with h5 | rfl
      · exact hj k hk h5
      · simp [nameIs, h2]
  · rw [idxD_none (fun k hk => hj k hk (by omega))]
theorem rcat_c (b : Bool) (l : List Sec) : C 33 [slx b (l.map secC)] (.bool (catValid l)) [] := by
  refine start hC (nf := N33_ref28_Valid) rfl rfl ?_
  simp [N33_ref28_Valid]
  refine brB_of (fun h => ?_) (fun h => ?_) <;> simp at h
  · simp [catValid]; omega
  simp
  have hcv := catValid_iff l
  refine loop_of Nat (fun i => [(0, slx b (l.map secC)), (3, .int .i64 i)]) (fun i => i ≤ l.length ∧ ∀ (k : Nat) (h : k < l.length), k < i → secValid l[k] = true ∧ idxD (nameIs l[k].name) l = k) (fun i => l.length - i) 0 (by simp) (by simp) ?_
  rintro i ⟨hi, hj⟩
  simp
  refine brB_of (fun h3 => ?_) (fun h3 => ?_) <;> simp at h3 <;> simp [h3]
  · have hw : IntKind.wrap .i64 ((i : Int) + 1) = ((i + 1 : Nat) : Int) := wrap_i64 (by omega) (by omega)
    have bad : ¬ (secValid l[i] = true ∧ idxD (nameIs l[i].name) l = i) → catValid l = false := fun e => by
      rw [← Bool.not_eq_true]
      exact fun e2 => e ((hcv.1 e2).2 i h3)
    have hr := rRight_c hC l[i]
    have hf := rFind_c hC b l l[i].name (by omega)
    simp [h3, secC]
    simp [secC] at hr
    refine callW_of hr (.inl rfl) ?_
    cases hs : secValid l[i]
    · simp
      exact bad (by simp [hs])
    simp [h3, secC]
    refine callW_of hf (.inl rfl) ?_
    simp
    refine brB_of (fun h4 => ?_) (fun h4 => ?_) <;> simp at h4 <;> simp [h4]
    · exact bad (fun e => h4 e.2)
    · simp [hw]
      refine ⟨i + 1, ⟨by omega, fun k hk hki => ?_⟩, by omega, by simp⟩
      rcases Nat.lt_succ_iff_lt_or_eq.1 hki with h5 | rfl
      · exact hj k hk h5
      · exact ⟨hs, h4⟩
  · rw [hcv.2 ⟨by omega, fun k hk => hj k hk (by omega)⟩]
theorem ranges_c (b : Bool) (l : List Int) (lo hi : Int) (hl : l.length < 2 ^ 62) : C 34 [slx b (l.map fun n => [.int .i64 n]), .int .i64 lo, .int .i64 hi] (.bool (l.all fun n => inR n lo hi)) [] := by
  refine start hC (nf := N34_ref47_ranges) rfl rfl ?_
  simp [N34_ref47_ranges]
  refine loop_of Nat (fun i => [(0, slx b (l.map fun n => [.int .i64 n])), (1, .int .i64 lo), (2, .int .i64 hi), (7, .int .i64 i)]) (fun i => i ≤ l.length ∧ ∀ (k : Nat) (h : k < l.length), k < i → inR l[k] lo hi = true) (fun i => l.length - i) 0 (by simp) (by simp) ?_
  rintro i ⟨hi', hj⟩
  simp
  have bad : ∀ (h : i < l.length), inR l[i] lo hi = false → (l.all fun n => inR n lo hi) = false := fun h e => by
    rw [List.all_eq_false]
    exact ⟨l[i], List.getElem_mem h, by simp [e]⟩
  refine brB_of (fun h => ?_) (fun h => ?_) <;> simp at h <;> simp [h]
  · have hw : IntKind.wrap .i64 ((i : Int) + 1) = ((i + 1 : Nat) : Int) := wrap_i64 (by omega) (by omega)
    refine brB_of (fun h2 => ?_) (fun h2 => ?_) <;> simp [h] at h2 <;> simp [h, h2]
    · have := bad h (by simp [inR]; omega)
      rw [List.all_eq_false] at this
      simpa using this
    refine brB_of (fun h3 => ?_) (fun h3 => ?_) <;> simp [h] at h3 <;> simp [h, h3]
    · have := bad h (by simp [inR]; omega)
      rw [List.all_eq_false] at this
      simpa using this
    · simp [hw]
      refine ⟨i + 1, ⟨by omega, fun k hk hki => ?_⟩, by omega, by simp⟩
      rcases Nat.lt_succ_iff_lt_or_eq.1 hki with h5 | rfl
      · exact hj k hk h5
      · simp [inR]; omega
  · intro x hx
    obtain ⟨k, hk, rfl⟩ := List.getElem_of_mem hx
    exact hj k hk (by omega)
end Go.Gv

set_option linter.unusedSimpArgs false
namespace Go.Gv
open Go.Lib

theorem shlN (a k m : Nat) (hm : m = a * 2 ^ k % 18446744073709551616) : IntKind.u64.wrap ((a : Int) * 2 ^ k) = (m : Int) := by
  have e : (a : Int) * 2 ^ k = ((a * 2 ^ k : Nat) : Int) := by push_cast; rfl
  rw [e, wrapM, hm]
theorem shl1 (a m : Nat) (hm : m = a * 2 % 18446744073709551616) : IntKind.u64.wrap ((a : Int) * 2 ^ min 1 IntKind.u64.bits) = (m : Int) := shlN a 1 m hm
theorem shl32 (a m : Nat) (hm : m = a * 4294967296 % 18446744073709551616) : IntKind.u64.wrap ((a : Int) * 2 ^ min 32 IntKind.u64.bits) = (m : Int) := shlN a 32 m hm
theorem shr63 (a : Nat) : Int.fdiv (a : Int) (2 ^ min 63 IntKind.u64.bits) = ((a / 9223372036854775808 : Nat) : Int) := shrN a 63
theorem uw {n : Int} {m : Nat} (h : n = m ∨ n = m + 18446744073709551616 ∨ n = m - 18446744073709551616) (hm : m < 18446744073709551616) : IntKind.u64.wrap n = (m : Int) := by
  rw [wrapU]; omega

variable {C : CC} (hC : Closed prog C)
include hC
theorem rSize_c (n : Nat) (h : n < 9223372036854775808) : C 86 [.int .i64 n] (.int .u64 (n : Int)) [] := by
  refine start hC (nf := N86_ref03_Size) rfl rfl ?_
  simp [N86_ref03_Size, wrapN n (by omega)]
  refine brB_of (fun h1 => ?_) (fun h1 => ?_) <;> simp at h1 <;> simp [h1, wrapN n (by omega)]
  omega
theorem rLess_c (a b c d : Nat) : C 87 [.agg [.int .u64 a, .int .u64 b], .agg [.int .u64 c, .int .u64 d]] (.bool (decide (a < c ∨ (a = c ∧ b < d)))) [] := by
  refine start hC (nf := N87_ref03_Less) rfl rfl ?_
  simp [N87_ref03_Less]
  refine brB_of (fun h => ?_) (fun h => ?_) <;> simp at h <;> simp [h]
  have h3 : ¬ a < c := by omega
  refine brB_of (fun h2 => ?_) (fun h2 => ?_) <;> simp at h2 <;> simp [h2, h3]
  · have h4 : a = c := by omega
    simp [h4]
  · omega
theorem rMinus_c (a b c d p q : Nat) (ha : a < 18446744073709551616) (hb : b < 18446744073709551616) (hd : d < 18446744073709551616) (hq : q < 18446744073709551616) (h : p * 18446744073709551616 + q + (c * 18446744073709551616 + d) = a * 18446744073709551616 + b) : C 95 [.agg [.int .u64 a, .int .u64 b], .agg [.int .u64 c, .int .u64 d]] (.agg [.int .u64 p, .int .u64 q]) [] := by
  refine start hC (nf := N95_ref03_Minus) rfl rfl ?_
  simp [N95_ref03_Minus]
  have e3 : IntKind.u64.wrap ((b : Int) - (d : Int)) = (q : Int) := uw (by omega) hq
  refine brB_of (fun h1 => ?_) (fun h1 => ?_) <;> simp at h1 <;> simp [h1, e3]
  · have e1 : IntKind.u64.wrap ((a : Int) - (c : Int)) = ((p + 1 : Nat) : Int) := uw (by omega) (by omega)
    rw [e1]
    exact uw (by omega) (by omega)
  · exact uw (by omega) (by omega)
theorem rShift_c (a b w t p q : Nat) (hb : b < 18446744073709551616) (hw : w ≤ 1) (hp : p < 18446744073709551616) (hq : q < 18446744073709551616) (ht : (a * 18446744073709551616 + b) * 2 + w = (t * 18446744073709551616 + p) * 18446744073709551616 + q) : C 94 [.agg [.int .u64 a, .int .u64 b], .int .u64 w] (.agg [.int .u64 p, .int .u64 q]) [] := by
  refine start hC (nf := N94_ref03_Shift) rfl rfl ?_
  simp [N94_ref03_Shift]
  obtain ⟨a2, ha2⟩ : ∃ a2, a2 = a * 2 % 18446744073709551616 := ⟨_, rfl⟩
  obtain ⟨b2, hb2⟩ : ∃ b2, b2 = b * 2 % 18446744073709551616 := ⟨_, rfl⟩
  obtain ⟨c, hc⟩ : ∃ c, c = b / 9223372036854775808 := ⟨_, rfl⟩
  rw [shr63, shl1 a a2 ha2, shl1 b b2 hb2, ← hc]
  exact ⟨uw (by omega) hp, uw (by omega) hq⟩
theorem rMul_c (x y : Nat) (hx : x < 18446744073709551616) (hy : y < 18446744073709551616) : C 85 [.int .u64 x, .int .u64 y] (wideD (x * y)) [] := by
  refine start hC (nf := N85_ref03_Mul) rfl rfl ?_
  obtain ⟨bd, bt, bw, hhi⟩ := Lib.mul64_hi x y hx hy
  have ba := Lib.half_mul_le (a := x / 4294967296) (b := y / 4294967296) (by omega) (by omega)
  have bb := Lib.half_mul_le (a := x / 4294967296) (b := y % 4294967296) (by omega) (by omega)
  have bc := Lib.half_mul_le (a := x % 4294967296) (b := y / 4294967296) (by omega) (by omega)
  have hxy : x * y = x / 4294967296 * (y / 4294967296) * 18446744073709551616 + (x / 4294967296 * (y % 4294967296) + x % 4294967296 * (y / 4294967296)) * 4294967296 + x % 4294967296 * (y % 4294967296) := by
    have e1 : x = x / 4294967296 * 4294967296 + x % 4294967296 := by omega
    have e2 : y = y / 4294967296 * 4294967296 + y % 4294967296 := by omega
    generalize x / 4294967296 = ah at *
    generalize x % 4294967296 = al at *
    generalize y / 4294967296 = bh at *
    generalize y % 4294967296 = bl at *
    rw [e1, e2, Nat.add_mul, Nat.mul_add, Nat.mul_add, Nat.add_mul]
    rw [show ah * 4294967296 * (bh * 4294967296) = ah * bh * 18446744073709551616 by rw [Nat.mul_assoc, Nat.mul_left_comm 4294967296, ← Nat.mul_assoc]]
    rw [show ah * 4294967296 * bl = ah * bl * 4294967296 by rw [Nat.mul_right_comm], show al * (bh * 4294967296) = al * bh * 4294967296 by rw [Nat.mul_assoc]]
    omega
  obtain ⟨P, hP⟩ : ∃ P, P = x / 4294967296 * (y / 4294967296) := ⟨_, rfl⟩
  obtain ⟨Q, hQ⟩ : ∃ Q, Q = x / 4294967296 * (y % 4294967296) := ⟨_, rfl⟩
  obtain ⟨R, hR⟩ : ∃ R, R = x % 4294967296 * (y / 4294967296) := ⟨_, rfl⟩
  obtain ⟨L, hL⟩ : ∃ L, L = x % 4294967296 * (y % 4294967296) := ⟨_, rfl⟩
  obtain ⟨Z, hZ⟩ : ∃ Z, Z = x * y := ⟨_, rfl⟩
  rw [← hP, ← hQ, ← hR, ← hL, ← hZ] at hxy
  rw [← hP] at ba
  rw [← hQ] at bb
  rw [← hR] at bc
  rw [← hL] at bd
  obtain ⟨zh, hzh⟩ : ∃ zh, zh = Z / 18446744073709551616 := ⟨_, rfl⟩
  obtain ⟨zl, hzl⟩ : ∃ zl, zl = Z % 18446744073709551616 := ⟨_, rfl⟩
  rw [← hZ, wideD, ← hzh, ← hzl]
  simp [N85_ref03_Mul]
  simp only [maskN x hx, maskN y hy, shr32, mulN, ← hP, ← hQ, ← hR, ← hL, wrapN L bd, wrapN P (by omega), wrapN Q (by omega), wrapN R (by omega), addN]
  obtain ⟨M, hM⟩ : ∃ M, M = Q + L / 4294967296 := ⟨_, rfl⟩
  have hM1 : M < 18446744073709551616 := by omega
  rw [← hM, wrapN M hM1, shr32, maskN M hM1, maskN L bd, addN]
  obtain ⟨O, hO⟩ : ∃ O, O = R + M % 4294967296 := ⟨_, rfl⟩
  have hO1 : O < 18446744073709551616 := by omega
  obtain ⟨O2, hO2⟩ : ∃ O2, O2 = O * 4294967296 % 18446744073709551616 := ⟨_, rfl⟩
  simp only [addN R, ← hO, wrapN O hO1, shr32, shl32 O O2 hO2]
  rw [wrapN (P + M / 4294967296) (by omega), addN, addN, wrapN _ (by omega), wrapN _ (by omega)]
  clear hP hQ hR hL hZ bt bw hhi
  exact ⟨by omega, by omega⟩
end Go.Gv

set_option linter.unusedSimpArgs false
namespace Go.Gv

/-- A quotient, bit by bit: a is what is left of x, shifted. -/
def DvS (x b i a q r : Nat) : Prop := i ≤ 128 ∧ r < b ∧ ∃ c, a = c * 2 ^ i ∧ c < 2 ^ (128 - i) ∧ (q * b + r) * 2 ^ (128 - i) + c = x
theorem DvS.step {x b i a q r : Nat} (h : DvS x b i a q r) (hi : i < 128) (hb : 0 < b) :
    a < 340282366920938463463374607431768211456 ∧ 2 * q ≤ x ∧
    ∀ w r' a', 2 * r + a / 170141183460469231731687303715884105728 = w * b + r' → r' < b → a' = 2 * a % 340282366920938463463374607431768211456 → DvS x b (i + 1) a' (2 * q + w) r' ∧ 2 * q + w ≤ x := by
  obtain ⟨_, hr, c, h1, h2, h3⟩ := h
  obtain ⟨m, hm⟩ : ∃ m, m + 1 = 128 - i := ⟨127 - i, by omega⟩
  have hm2 : m = 128 - (i + 1) := by omega
  rw [← hm, Nat.pow_succ] at h2 h3
  obtain ⟨V, hV⟩ : ∃ V, V = 2 ^ m := ⟨_, rfl⟩
  obtain ⟨W, hW⟩ : ∃ W, W = 2 ^ i := ⟨_, rfl⟩
  have hVW : V * W = 170141183460469231731687303715884105728 := by
    rw [hV, hW, ← Nat.pow_add, show m + i = 127 by omega]
  have hVp : 0 < V := by rw [hV]; exact Nat.two_pow_pos m
  rw [← hV] at h2 h3
  rw [← hW] at h1
  obtain ⟨t, ht⟩ : ∃ t, t = c / V := ⟨_, rfl⟩
  obtain ⟨d, hd⟩ : ∃ d, d = c % V := ⟨_, rfl⟩
  have hc : c = t * V + d := by rw [ht, hd, Nat.mul_comm]; exact (Nat.div_add_mod c V).symm
  have hdV : d < V := by rw [hd]; exact Nat.mod_lt _ hVp
  have ht1 : t ≤ 1 := by
    have : t < 2 := by rw [ht, Nat.div_lt_iff_lt_mul hVp]; omega
    omega
  have ha : a = t * 170141183460469231731687303715884105728 + d * W := by
    rw [h1, hc, Nat.add_mul, Nat.mul_assoc, hVW]
  have hdW : d * W < 170141183460469231731687303715884105728 := by
    have : (d + 1) * W ≤ V * W := Nat.mul_le_mul_right _ hdV
    rw [hVW, Nat.add_mul] at this
    have hWp : 0 < W := by rw [hW]; exact Nat.two_pow_pos i
    omega
  have hbit : a / 170141183460469231731687303715884105728 = t := by
    rw [ha]; generalize d * W = z at *; omega
  have fin : ∀ w r', 2 * r + t = w * b + r' → ((2 * q + w) * b + r') * V + d = x := fun w r' e => by
    have e1 : (2 * q + w) * b + r' = 2 * (q * b + r) + t := by
      rw [Nat.add_mul, Nat.mul_assoc]
      generalize q * b = z at *
      generalize w * b = z' at *
      omega
    rw [e1, ← h3, hc, Nat.add_mul, Nat.mul_comm V 2, ← Nat.mul_assoc, Nat.mul_comm (q * b + r) 2]
    omega
  have big : ∀ w r', 2 * r + t = w * b + r' → 2 * q + w ≤ x := fun w r' e => by
    have e1 := fin w r' e
    have e2 : 2 * q + w ≤ (2 * q + w) * b := Nat.le_mul_of_pos_right _ hb
    have e3 : (2 * q + w) * b + r' ≤ ((2 * q + w) * b + r') * V := Nat.le_mul_of_pos_right _ hVp
    omega
  refine ⟨?_, ?_, ?_⟩
  · rw [ha]; generalize d * W = z at *; omega
  · exact Nat.le_trans (Nat.le_add_right _ _) (big _ _ (Nat.div_add_mod' (2 * r + t) b).symm)
  · intro w r' a' e hr' ha'
    rw [hbit] at e
    refine ⟨⟨by omega, hr', d, ?_, ?_, ?_⟩, big w r' e⟩
    · rw [ha', ha, Nat.pow_succ, ← hW, Nat.mul_comm W 2, Nat.mul_left_comm]
      generalize d * W = z at *
      omega
    · rw [← hm2, ← hV]; exact hdV
    · rw [← hm2, ← hV]; exact fin w r' e
theorem DvS.last {x b a q r : Nat} (h : DvS x b 128 a q r) : q = x / b ∧ r = x % b := by
  obtain ⟨_, hr, c, h1, h2, h3⟩ := h
  simp at h2 h3
  subst h2
  simp at h3
  subst h3
  have hb : 0 < b := by omega
  rw [Nat.mul_comm, Nat.mul_add_div hb, Nat.div_eq_of_lt hr, Nat.mul_add_mod, Nat.mod_eq_of_lt hr]
  exact ⟨rfl, rfl⟩

variable {C : CC} (hC : Closed prog C)
include hC
theorem rMade_c (a b : Nat) : C 84 [.agg [.int .u64 a, .int .u64 b], .bool false] (.agg [.int .u64 a, .int .u64 b, .bool false]) [] := by
  refine start hC (nf := N84_ref03_Made) rfl rfl ?_
  simp [N84_ref03_Made]
  exact indW_of (by decide +kernel)
theorem rOfInt_c (n : Nat) (h : n < 9223372036854775808) : C 68 [.int .i64 n] (.agg [.int .u64 0, .int .u64 n, .bool false]) [] := by
  refine start hC (nf := N68_ref03_OfInt) rfl rfl ?_
  simp [N68_ref03_OfInt]
  refine callW_of (rSize_c hC n h) (.inl rfl) ?_
  have hm := rMade_c hC 0 n
  have h0 : ¬ (n : Int) < 0 := by omega
  simp [h0]
  refine callW_of hm (.inl rfl) ?_
  simp
theorem rTimes_c (x y : Nat) (hx : x < 9223372036854775808) (hy : y < 9223372036854775808) : C 67 [.int .i64 x, .int .i64 y] (.agg [.int .u64 ((x * y / 18446744073709551616 : Nat) : Int), .int .u64 ((x * y % 18446744073709551616 : Nat) : Int), .bool false]) [] := by
  refine start hC (nf := N67_ref03_Times) rfl rfl ?_
  have h0 : ¬ (x : Int) < 0 := by omega
  have h1 : ¬ (y : Int) < 0 := by omega
  have hm := rMul_c hC x y (by omega) (by omega)
  rw [wideD] at hm
  obtain ⟨zh, hzh⟩ : ∃ zh, zh = x * y / 18446744073709551616 := ⟨_, rfl⟩
  obtain ⟨zl, hzl⟩ : ∃ zl, zl = x * y % 18446744073709551616 := ⟨_, rfl⟩
  rw [← hzh, ← hzl] at hm ⊢
  simp [N67_ref03_Times]
  refine callW_of (rSize_c hC x hx) (.inl rfl) ?_
  simp
  refine callW_of (rSize_c hC y hy) (.inl rfl) ?_
  simp
  refine callW_of hm (.inl rfl) ?_
  simp [h0, h1]
  refine callW_of (rMade_c hC zh zl) (.inl rfl) ?_
  simp
set_option maxHeartbeats 2000000 in
theorem rDiv_c (x b : Nat) (hx : x < 340282366920938463463374607431768211456) (hb0 : 0 < b) (hb : b < 9223372036854775808) : C 82 [.agg [.int .u64 ((x / 18446744073709551616 : Nat) : Int), .int .u64 ((x % 18446744073709551616 : Nat) : Int)], .agg [.int .u64 0, .int .u64 b]]
    (.tup [.agg [.int .u64 ((x / b / 18446744073709551616 : Nat) : Int), .int .u64 ((x / b % 18446744073709551616 : Nat) : Int)], .agg [.int .u64 0, .int .u64 ((x % b : Nat) : Int)]]) [] := by
  obtain ⟨xh, hxh⟩ : ∃ xh, xh = x / 18446744073709551616 := ⟨_, rfl⟩
  obtain ⟨xl, hxl⟩ : ∃ xl, xl = x % 18446744073709551616 := ⟨_, rfl⟩
  obtain ⟨yh, hyh⟩ : ∃ yh, yh = x / b / 18446744073709551616 := ⟨_, rfl⟩
  obtain ⟨yl, hyl⟩ : ∃ yl, yl = x / b % 18446744073709551616 := ⟨_, rfl⟩
  obtain ⟨z, hz⟩ : ∃ z, z = x % b := ⟨_, rfl⟩
  rw [← hxh, ← hxl, ← hyh, ← hyl, ← hz]
  refine start hC (nf := N82_ref03_Div) rfl rfl ?_
  simp [N82_ref03_Div]
  refine loop_of (Nat × Nat × Nat × Nat × Nat × Nat) (fun s => [(2, .adr (.r 10032) 0 0), (3, .ptr [.int .u64 0, .int .u64 b]), (4, .adr (.r 10064) 0 0), (5, .adr (.r 10080) 0 0), (6, .adr (.r 10096) 0 0), (7, .adr (.r 10112) 0 0), (8, .int .i64 s.1),
      (10032, .blk 2 [[.int .u64 s.2.1, .int .u64 s.2.2.1]]), (10064, .blk 2 [[.int .u64 0, .int .u64 0]]), (10080, .blk 2 [[.int .u64 0, .int .u64 0]]), (10096, .blk 2 [[.int .u64 s.2.2.2.1, .int .u64 s.2.2.2.2.1]]), (10112, .blk 2 [[.int .u64 0, .int .u64 s.2.2.2.2.2]])])
    (fun s => s.2.2.1 < 18446744073709551616 ∧ s.2.2.2.2.1 < 18446744073709551616 ∧ DvS x b s.1 (s.2.1 * 18446744073709551616 + s.2.2.1) (s.2.2.2.1 * 18446744073709551616 + s.2.2.2.2.1) s.2.2.2.2.2) (fun s => 128 - s.1) (0, xh, xl, 0, 0, 0) ⟨by simp; omega, by simp, by omega, by simpa using hb0, x, by simp; omega, by simp; exact hx, by simp⟩ (by simp) ?_
  rintro ⟨i, ah, al, qh, ql, r⟩ ⟨hal, hql, hS⟩
  simp only at hal hql hS
  simp
  refine brB_of (fun c => ?_) (fun c => ?_) <;> simp at c <;> simp [c]
  · have hrb := hS.2.1
    have hw1 : IntKind.wrap .i64 ((i : Int) + 1) = ((i + 1 : Nat) : Int) := wrap_i64 (by omega) (by omega)
    obtain ⟨g1, g2, g3⟩ := hS.step (by omega) hb0
    obtain ⟨A, hA⟩ : ∃ A, A = ah * 18446744073709551616 + al := ⟨_, rfl⟩
    obtain ⟨Q, hQ⟩ : ∃ Q, Q = qh * 18446744073709551616 + ql := ⟨_, rfl⟩
    rw [← hA] at g1 g3
    rw [← hQ] at g2 g3
    obtain ⟨t, ht⟩ : ∃ t, t = ah / 9223372036854775808 := ⟨_, rfl⟩
    have ht2 : A / 170141183460469231731687303715884105728 = t := by omega
    rw [ht2] at g3
    obtain ⟨p, hp⟩ : ∃ p, p = 2 * A % 340282366920938463463374607431768211456 / 18446744073709551616 := ⟨_, rfl⟩
    obtain ⟨o, ho⟩ : ∃ o, o = 2 * A % 340282366920938463463374607431768211456 % 18446744073709551616 := ⟨_, rfl⟩
    have k1 := rShift_c hC ah al 0 t p o (by omega) (by omega) (by omega) (by omega) (by omega)
    have k2 := rShift_c hC 0 r t 0 0 (2 * r + t) (by omega) (by omega) (by omega) (by omega) (by omega)
    obtain ⟨u, hu⟩ : ∃ u, u = 2 * Q / 18446744073709551616 := ⟨_, rfl⟩
    obtain ⟨v, hv⟩ : ∃ v, v = 2 * Q % 18446744073709551616 := ⟨_, rfl⟩
    have k3 := rShift_c hC qh ql 0 0 u v (by omega) (by omega) (by omega) (by omega) (by omega)
    obtain ⟨r2, hr2⟩ : ∃ r2, r2 = 2 * r + t := ⟨_, rfl⟩
    rw [← hr2] at k2 g3
    have k4 := rLess_c hC 0 r2 0 b
    simp only [Int.natCast_zero] at k1 k2 k3 k4
    have hsh : Int.fdiv (ah : Int) (2 ^ min 63 IntKind.u64.bits) = (t : Int) := by rw [shr63, ht]
    have hsh0 : Int.fdiv 0 (2 ^ min 63 IntKind.u64.bits) = 0 := by simpa using shr63 0
    have e1 : p * 18446744073709551616 + o = 2 * A % 340282366920938463463374607431768211456 := by rw [hp, ho]; exact Nat.div_add_mod' _ _
    have e2 : u * 18446744073709551616 + v = 2 * Q := by rw [hu, hv]; exact Nat.div_add_mod' _ _
    simp [hsh]
    refine callW_of k1 (.inl rfl) ?_
    simp [hsh0]
    refine callW_of k2 (.inl rfl) ?_
    simp
    refine callW_of k3 (.inl rfl) ?_
    simp
    refine callW_of k4 (.inl rfl) ?_
    simp
    refine brB_of (fun d => ?_) (fun d => ?_) <;> simp at d <;> simp [d, hw1]
    · obtain ⟨r3, hr3⟩ : ∃ r3, r3 = r2 - b := ⟨_, rfl⟩
      have k5 := rMinus_c hC 0 r2 0 b 0 r3 (by omega) (by omega) (by omega) (by omega) (by clear g3 hp ho hu hv g1 g2 hx k1 k2 k3 k4 e1 e2; omega)
      simp only [Int.natCast_zero] at k5
      obtain ⟨m1, m2⟩ := g3 1 r3 (2 * A % 340282366920938463463374607431768211456) (by omega) (by omega) rfl
      have hve : v % 2 = 0 ∧ v < 18446744073709551616 := by
        clear g3 m1 m2 k1 k2 k3 k4 k5 hS e1 e2 hp ho g1 hA
        omega
      have hv1 : IntKind.u64.wrap ((v : Int) + 1) = ((v + 1 : Nat) : Int) := uw (.inl (by push_cast; rfl)) (by clear g3 m1 m2 hp ho hu hv; omega)
      refine callW_of k5 (.inl rfl) ?_
      simp [hv1, hw1]
      refine ⟨i + 1, p, o, u, v + 1, r3, ⟨by clear g3 m1 m2 hu hv; omega, by clear g3 m1 m2 hp ho hu hv; omega, ?_⟩, by omega, ?_⟩
      · rw [e1, ← Nat.add_assoc, e2]; exact m1
      · simp
    · obtain ⟨m1, m2⟩ := g3 0 r2 (2 * A % 340282366920938463463374607431768211456) (by omega) (by omega) rfl
      refine ⟨i + 1, p, o, u, v, r2, ⟨by omega, by omega, ?_⟩, by omega, ?_⟩
      · rw [e1, e2]; exact m1
      · simp
  · obtain rfl : i = 128 := by have := hS.1; omega
    obtain ⟨e1, e2⟩ := hS.last
    refine ⟨indW_of (by decide +kernel), ?_⟩
    rw [← hz] at e2
    subst e2
    obtain ⟨Y, hY⟩ : ∃ Y, Y = x / b := ⟨_, rfl⟩
    rw [← hY] at e1 hyh hyl
    have e3 : qh = yh := by omega
    have e4 : ql = yl := by omega
    subst e3 e4
    simp
end Go.Gv

set_option linter.unusedSimpArgs false
namespace Go.Gv

theorem rootF_lt : ∀ (i x r : Nat), r + 2 ^ i ≤ 9223372036854775808 → rootF x i r < 9223372036854775808
  | 0, x, r, h => by simp only [rootF]; simp at h; omega
  | i + 1, x, r, h => by
    rw [rootF_step]
    have := Nat.two_pow_pos i
    rw [Nat.pow_succ] at h
    split <;> exact rootF_lt i x _ (by omega)
theorem rootN_lt (x : Nat) : rootN x < 9223372036854775808 := rootF_lt 63 x 0 (by decide)

variable {C : CC} (hC : Closed prog C)
include hC
theorem rDown_c (x b : Nat) (hx : x < 340282366920938463463374607431768211456) (hb0 : 0 < b) (hb : b < 9223372036854775808) : C 66 [.agg [.int .u64 ((x / 18446744073709551616 : Nat) : Int), .int .u64 ((x % 18446744073709551616 : Nat) : Int), .bool false], .agg [.int .u64 0, .int .u64 b, .bool false]]
    (.agg [.int .u64 ((x / b / 18446744073709551616 : Nat) : Int), .int .u64 ((x / b % 18446744073709551616 : Nat) : Int), .bool false]) [] := by
  have hd := rDiv_c hC x b hx hb0 hb
  obtain ⟨xh, hxh⟩ : ∃ xh, xh = x / 18446744073709551616 := ⟨_, rfl⟩
  obtain ⟨xl, hxl⟩ : ∃ xl, xl = x % 18446744073709551616 := ⟨_, rfl⟩
  obtain ⟨yh, hyh⟩ : ∃ yh, yh = x / b / 18446744073709551616 := ⟨_, rfl⟩
  obtain ⟨yl, hyl⟩ : ∃ yl, yl = x / b % 18446744073709551616 := ⟨_, rfl⟩
  obtain ⟨z, hz⟩ : ∃ z, z = x % b := ⟨_, rfl⟩
  rw [← hxh, ← hxl, ← hyh, ← hyl, ← hz] at hd
  rw [← hxh, ← hxl, ← hyh, ← hyl]
  refine start hC (nf := N66_ref03_Down) rfl rfl ?_
  simp [N66_ref03_Down]
  refine callW_of hd (.inr rfl) ?_
  simp
  refine callW_of (rMade_c hC yh yl) (.inl rfl) ?_
  simp
theorem rRoot_c (x : Nat) : C 69 [.agg [.int .u64 ((x / 18446744073709551616 : Nat) : Int), .int .u64 ((x % 18446744073709551616 : Nat) : Int)]] (.int .u64 (rootN x)) [] := by
  obtain ⟨h, hh⟩ : ∃ h, h = x / 18446744073709551616 := ⟨_, rfl⟩
  obtain ⟨l, hl⟩ : ∃ l, l = x % 18446744073709551616 := ⟨_, rfl⟩
  rw [← hh, ← hl]
  obtain ⟨N, hN⟩ : ∃ N, N = rootN x := ⟨_, rfl⟩
  rw [← hN]
  refine start hC (nf := N69_ref03_Root) rfl rfl ?_
  simp [N69_ref03_Root]
  refine loop_of (Nat × Nat) (fun s => [(1, .ptr [.int .u64 (h : Int), .int .u64 (l : Int)]), (3, .int .u64 s.2), (4, .int .i64 ((63 - s.1 : Nat) : Int))])
    (fun s => s.1 ≤ 63 ∧ s.2 + 2 ^ s.1 ≤ 9223372036854775808 ∧ rootF x s.1 s.2 = N) (fun s => s.1) (63, 0) ⟨by omega, by decide, by rw [hN]; rfl⟩ (by simp) ?_
  rintro ⟨i, r⟩ ⟨h1, h2, h3⟩
  simp only at h1 h2 h3
  simp
  refine brB_of (fun c => ?_) (fun c => ?_) <;> simp at c <;> simp [c]
  · obtain ⟨j, rfl⟩ : ∃ j, i = j + 1 := ⟨i - 1, by omega⟩
    have e62 : IntKind.i64.wrap (62 - ((62 - j : Nat) : Int)) = (j : Int) := wrap_i64 (by omega) (by omega)
    have ej : IntKind.u64.wrap (j : Int) = (j : Int) := wrapN j (by omega)
    have hw : IntKind.wrap .i64 (((62 - j : Nat) : Int) + 1) = ((63 - j : Nat) : Int) := wrap_i64 (by omega) (by omega)
    obtain ⟨V, hV⟩ : ∃ V, V = 2 ^ j := ⟨_, rfl⟩
    have hV2 : 2 ^ (j + 1) = 2 * V := by rw [Nat.pow_succ, hV]; omega
    rw [hV2] at h2
    have hVp : 0 < V := by rw [hV]; exact Nat.two_pow_pos j
    have hmin : min j IntKind.u64.bits = j := Nat.min_eq_left (by show j ≤ 64; omega)
    have esh : IntKind.u64.wrap (2 ^ j) = (V : Int) := by
      have : (2 : Int) ^ j = ((2 ^ j : Nat) : Int) := by push_cast; rfl
      rw [this, ← hV]; exact wrapN V (by omega)
    obtain ⟨y, hy⟩ : ∃ y, y = r + V := ⟨_, rfl⟩
    have ey : IntKind.u64.wrap ((r : Int) + (V : Int)) = (y : Int) := uw (.inl (by omega)) (by omega)
    have hm := rMul_c hC y y (by omega) (by omega)
    rw [wideD] at hm
    obtain ⟨Z, hZ⟩ : ∃ Z, Z = y * y := ⟨_, rfl⟩
    obtain ⟨zh, hzh⟩ : ∃ zh, zh = Z / 18446744073709551616 := ⟨_, rfl⟩
    obtain ⟨zl, hzl⟩ : ∃ zl, zl = Z % 18446744073709551616 := ⟨_, rfl⟩
    rw [← hZ, ← hzh, ← hzl] at hm
    have hls := rLess_c hC h l zh zl
    have hcmp : (h < zh ∨ (h = zh ∧ l < zl)) ↔ x < Z := by
      rw [hh, hl, hzh, hzl]; omega
    have hdc : decide (h < zh ∨ (h = zh ∧ l < zl)) = decide (x < Z) := decide_eq_decide.2 hcmp
    rw [hdc] at hls
    rw [rootF_step, ← hV, ← hy, ← hZ] at h3
    simp [e62, ej, hmin, esh, ey]
    refine callW_of hm (.inl rfl) ?_
    simp
    refine callW_of hls (.inl rfl) ?_
    simp
    refine ⟨indW_of (by decide +kernel), ?_⟩
    by_cases d : x < Z
    · simp [d, hw]
      rw [if_neg (show ¬ Z ≤ x by omega)] at h3
      exact ⟨j, r, ⟨by omega, by rw [← hV]; omega, h3⟩, by omega, rfl, rfl⟩
    · simp [d, hw]
      rw [if_pos (show Z ≤ x by omega)] at h3
      exact ⟨j, y, ⟨by omega, by rw [← hV]; omega, h3⟩, by omega, rfl, rfl⟩
  · obtain rfl : i = 0 := by omega
    have h4 : r = N := h3
    rw [h4]
theorem rRoot3_c (a b n : Nat) (ha : a < 9223372036854775808) (hb : b < 9223372036854775808) (hn : 0 < n) (hn2 : n < 9223372036854775808) : C 57 [.int .i64 a, .int .i64 b, .int .i64 n] (.int .i64 (rootN (a * b / n))) [] := by
  have hab : a * b < 340282366920938463463374607431768211456 := by
    have : a * b ≤ 9223372036854775808 * 9223372036854775808 := Nat.mul_le_mul (by omega) (by omega)
    omega
  have h1 := rTimes_c hC a b ha hb
  have h2 := rDown_c hC (a * b) n hab hn hn2
  have h3 := rRoot_c hC (a * b / n)
  have h4 := rootN_lt (a * b / n)
  obtain ⟨P, hP⟩ : ∃ P, P = a * b := ⟨_, rfl⟩
  rw [← hP] at h1 h2 h3 h4 ⊢
  obtain ⟨p, hp⟩ : ∃ p, p = P / 18446744073709551616 := ⟨_, rfl⟩
  obtain ⟨q, hq⟩ : ∃ q, q = P % 18446744073709551616 := ⟨_, rfl⟩
  rw [← hp, ← hq] at h1 h2
  obtain ⟨Q, hQ⟩ : ∃ Q, Q = P / n := ⟨_, rfl⟩
  rw [← hQ] at h2 h3 h4 ⊢
  obtain ⟨u, hu⟩ : ∃ u, u = Q / 18446744073709551616 := ⟨_, rfl⟩
  obtain ⟨v, hv⟩ : ∃ v, v = Q % 18446744073709551616 := ⟨_, rfl⟩
  rw [← hu, ← hv] at h2 h3
  obtain ⟨N, hN⟩ : ∃ N, N = rootN Q := ⟨_, rfl⟩
  rw [← hN] at h3 h4 ⊢
  refine start hC (nf := N57_ref28_Root) rfl rfl ?_
  have hw : IntKind.i64.wrap (N : Int) = (N : Int) := wrap_i64 rfl (by omega)
  simp [N57_ref28_Root]
  refine callW_of h1 (.inl rfl) ?_
  simp
  refine callW_of (rOfInt_c hC n hn2) (.inl rfl) ?_
  simp
  refine callW_of h2 (.inl rfl) ?_
  simp
  refine callW_of h3 (.inl rfl) ?_
  simp [hw]
end Go.Gv

set_option linter.unusedSimpArgs false
namespace Go.Gv

theorem table_asc {t : List (Int × Int)} (h : tableValid t = true) : ∀ k i, i + k < t.length → t[i]!.1 ≤ t[i + k]!.1
  | 0, i, _ => Int.le_refl _
  | k + 1, i, hk => by
    have h1 := table_asc h k i (by omega)
    simp only [tableValid, Bool.and_eq_true, List.all_eq_true, List.mem_range] at h
    have h2 := h.2 (i + (k + 1)) hk
    simp only [okAt, Bool.and_eq_true, Bool.or_eq_true, beq_iff_eq, decide_eq_true_eq] at h2
    have e : i + (k + 1) - 1 = i + k := by omega
    rw [e] at h2
    rcases h2.2 with h3 | h3 <;> omega
theorem table_last {t : List (Int × Int)} (h : tableValid t = true) {i : Nat} (hi : i < t.length) : t[i].1 ≤ (lastK t).1 := by
  have := table_asc h (t.length - 1 - i) i (by omega)
  rw [show i + (t.length - 1 - i) = t.length - 1 by omega, getElem!_pos t i hi] at this
  exact this

theorem poss_eq {j : Job} (hv : jobValid j = true) {i s : Nat} (hi : i < j.below.l.length) (hs : s < j.secs.length) :
    possAt j i s = (decide (j.secs[s]!.height ≤ j.room.l[i]!) && decide (j.flows.l[i]! ≤ (capN j.secs[s]! j.falls.l[i]! j.lengths.l[i]! : Int))) := by
  have hp : inR j.lengths.l[i]! 1 16777216 = true ∧ inR j.flows.l[i]! 0 1099511627776 = true ∧ inR j.falls.l[i]! 0 4194304 = true := by
    simp only [jobValid, Bool.and_eq_true, List.all_eq_true, List.mem_range] at hv
    have := hv.2 i hi
    simp only [pipeOk, Bool.and_eq_true] at this
    exact ⟨this.1.1.1.2, this.1.1.2, this.1.2⟩
  simp only [inR, Bool.and_eq_true, decide_eq_true_eq] at hp
  have hsv : secValid j.secs[s]! = true := by
    simp only [jobValid, catValid, Bool.and_eq_true, List.all_eq_true] at hv
    rw [getElem!_pos j.secs s hs]
    exact hv.1.2.1.2 _ (List.getElem_mem hs)
  have hsl : slopeOk j.falls.l[i]! j.lengths.l[i]! = true := by
    simp only [slopeOk, Bool.and_eq_true, decide_eq_true_eq]; omega
  rw [possAt, fullF, if_pos hsv, if_pos hsl]
  by_cases hc : 1099511627776 < capN j.secs[s]! j.falls.l[i]! j.lengths.l[i]!
  · rw [if_pos hc]
    have : decide (j.flows.l[i]! ≤ (capN j.secs[s]! j.falls.l[i]! j.lengths.l[i]! : Int)) = true := by rw [decide_eq_true_eq]; omega
    rw [this]
    simp
  · rw [if_neg hc]
    simp
    rw [Bool.and_comm]

variable {C : CC} (hC : Closed prog C)
include hC
theorem rbefore_c (b : Bool) (t : List (Int × Int)) (x : Int) (hl : t.length < 2 ^ 62) (h : ∀ (i : Nat) (h : i < t.length), t[i].1 ≤ x) : C 80 [slx b (t.map knD), .int .i64 x] (.int .i64 ((t.length : Int) - 1)) [] := by
  refine start hC (nf := N80_ref06_before) rfl rfl ?_
  simp [N80_ref06_before]
  refine loop_of Nat (fun i => [(0, slx b (t.map knD)), (1, .int .i64 x), (5, .int .i64 ((i : Int) - 1)), (6, .int .i64 i)]) (fun i => i ≤ t.length) (fun i => t.length - i) 0 (by simp) (by simp) ?_
  rintro i hi
  simp
  refine brB_of (fun h1 => ?_) (fun h1 => ?_) <;> simp at h1 <;> simp [h1]
  · have hw : IntKind.wrap .i64 ((i : Int) + 1) = ((i + 1 : Nat) : Int) := wrap_i64 (by omega) (by omega)
    have hx := h i h1
    simp [h1, knD, hx, hw]
    exact ⟨i + 1, by omega, by omega, by omega, by omega⟩
  · omega
theorem rValue_c (b : Bool) (t : List (Int × Int)) (ht : tableValid t = true) : C 65 [slx b (t.map knD), .int .i64 (lastK t).1] (.tup [.int .i64 (lastK t).2, .int .i64 0, .int .i64 1]) [] := by
  obtain ⟨l1, l2⟩ := valid_len ht
  obtain ⟨n, hn⟩ : ∃ n, n + 1 = t.length := ⟨t.length - 1, by omega⟩
  have hb := rbefore_c hC b t (lastK t).1 (by omega) (fun i h => table_last ht h)
  have hln := lastK_get hn
  have e : (t.length : Int) - 1 = (n : Int) := by omega
  have hw : IntKind.i64.wrap ((t.length : Int) - 1) = (n : Int) := wrap_i64 (by omega) (by omega)
  rw [e] at hb
  have hnl : n < t.length := by omega
  have h0 : ¬ (n : Int) < 0 := by omega
  refine start hC (nf := N65_ref06_Value) rfl rfl ?_
  simp [N65_ref06_Value]
  refine callW_of hb (.inl rfl) ?_
  simp [h0, hw, hnl, knD, hln]
theorem rFloor_c (b : Bool) (t : List (Int × Int)) (ht : tableValid t = true) : C 56 [slx b (t.map knD), .int .i64 (lastK t).1] (.int .i64 (lastK t).2) [] := by
  refine start hC (nf := N56_ref06_Floor) rfl rfl ?_
  simp [N56_ref06_Floor]
  refine callW_of (rValue_c hC b t ht) (.inl rfl) ?_
  simp
theorem rCarried_c (s : Sec) (fall len : Int) (hs : secValid s = true) (hsl : slopeOk fall len = true) : C 50 [.agg (secC s), .int .i64 s.height, .int .i64 fall, .int .i64 len] (.int .i64 (capN s fall len)) [] := by
  obtain ⟨h1, h2, h3, h4⟩ := conv_last hs
  have hf := rFloor_c hC s.convN s.conv h1
  rw [h2] at hf
  obtain ⟨y, hy⟩ : ∃ y : Nat, (lastK s.conv).2 = (y : Int) := ⟨(lastK s.conv).2.toNat, by omega⟩
  simp only [slopeOk, Bool.and_eq_true, decide_eq_true_eq] at hsl
  obtain ⟨f, rfl⟩ : ∃ f : Nat, fall = (f : Int) := ⟨fall.toNat, by omega⟩
  obtain ⟨n, rfl⟩ : ∃ n : Nat, len = (n : Int) := ⟨len.toNat, by omega⟩
  rw [capN, hy, Int.toNat_natCast, Int.toNat_natCast, Int.toNat_natCast, Nat.mul_assoc]
  rw [hy] at hf h3 h4
  have hyf : y * f ≤ 1099511627776 * 4194304 := Nat.mul_le_mul (by omega) (by omega)
  have hr := rRoot3_c hC y (y * f) n (by omega) (by omega) (by omega) (by omega)
  have hw : IntKind.i64.wrap ((y : Int) * (f : Int)) = ((y * f : Nat) : Int) := wrap_i64 (by push_cast; rfl) (by omega)
  obtain ⟨N, hN⟩ : ∃ N, N = rootN (y * (y * f) / n) := ⟨_, rfl⟩
  rw [← hN] at hr ⊢
  obtain ⟨g, hg⟩ : ∃ g, g = y * f := ⟨_, rfl⟩
  rw [← hg] at hr hw
  refine start hC (nf := N50_ref28_Carried) rfl rfl ?_
  simp [N50_ref28_Carried, secC]
  refine callW_of hf (.inl rfl) ?_
  simp [hw]
  refine callW_of hr (.inl rfl) ?_
  simp
theorem rPossible_c (j : Job) (hv : jobValid j = true) (i s : Nat) (hi : i < j.below.l.length) (hs : s < j.secs.length) : C 36 [.agg (jobC j), .int .i64 i, .int .i64 s] (.bool (possAt j i s)) [] := by
  have hlen : j.lengths.l.length = j.below.l.length ∧ j.flows.l.length = j.below.l.length ∧ j.falls.l.length = j.below.l.length ∧ j.room.l.length = j.below.l.length := by
    simp only [jobValid, Bool.and_eq_true, decide_eq_true_eq] at hv; omega
  have g1 : i < j.lengths.l.length := by omega
  have g2 : i < j.flows.l.length := by omega
  have g3 : i < j.falls.l.length := by omega
  have g4 : i < j.room.l.length := by omega
  have hsv : secValid j.secs[s] = true := by
    have hv' := hv
    simp only [jobValid, catValid, Bool.and_eq_true, List.all_eq_true] at hv'
    exact hv'.1.2.1.2 _ (List.getElem_mem hs)
  have hsl : slopeOk j.falls.l[i] j.lengths.l[i] = true := by
    have hv' := hv
    simp only [jobValid, Bool.and_eq_true, List.all_eq_true, List.mem_range] at hv'
    have := hv'.2 i hi
    simp only [pipeOk, inR, Bool.and_eq_true, decide_eq_true_eq, getElem!_pos j.falls.l i g3, getElem!_pos j.lengths.l i g1] at this
    simp only [slopeOk, Bool.and_eq_true, decide_eq_true_eq]
    omega
  have hc := rCarried_c hC j.secs[s] j.falls.l[i] j.lengths.l[i] hsv hsl
  rw [poss_eq hv hi hs, getElem!_pos j.secs s hs, getElem!_pos j.room.l i g4, getElem!_pos j.flows.l i g2, getElem!_pos j.falls.l i g3, getElem!_pos j.lengths.l i g1]
  obtain ⟨q, hq⟩ : ∃ q, q = capN j.secs[s] j.falls.l[i] j.lengths.l[i] := ⟨_, rfl⟩
  rw [← hq] at hc ⊢
  refine start hC (nf := N36_ref47_Possible) rfl rfl ?_
  simp [N36_ref47_Possible, jobC_eq, hs, g4, secC_eq]
  simp [secC_eq] at hc
  by_cases h1 : j.secs[s].height ≤ j.room.l[i]
  · simp [h1, g1, g2, g3, secC_eq]
    refine callW_of hc (.inl rfl) ?_
    simp [g1, g2, g3]
    exact ⟨indW_of (by decide +kernel), fun _ => h1⟩
  · simp [h1]
    exact indW_of (by decide +kernel)
end Go.Gv

set_option linter.unusedSimpArgs false
namespace Go.Gv
variable {C : CC} (hC : Closed prog C)
include hC
set_option maxRecDepth 4000 in
set_option maxHeartbeats 4000000 in
theorem rleast_c (j : Job) (hv : jobValid j = true) (b : Bool) (vals : List SlI) (pipe : Nat) (height : Int) (hp : pipe < j.below.l.length) (hpv : pipe < vals.length) (hl : vals[pipe]!.l.length = j.secs.length) (hcell : ∀ y ∈ vals[pipe]!.l, -1 ≤ y) :
    C 38 [.agg (jobC j), slx b (vals.map fun r => [slI r]), .int .i64 pipe, .int .i64 height] (.int .i64 (leastF (okF j pipe height) (rowsF vals pipe)).2) [] := by
  rw [rowsF]
  rw [getElem!_pos vals pipe hpv] at hl hcell ⊢
  have hm : j.secs.length ≤ 40 := by simp only [jobValid, catValid, Bool.and_eq_true, decide_eq_true_eq] at hv; omega
  obtain ⟨vs, hvs⟩ : ∃ vs, vs = vals[pipe].l := ⟨_, rfl⟩
  rw [← hvs] at hl hcell ⊢
  obtain ⟨r, hr⟩ : ∃ r, r = leastF (okF j pipe height) vs := ⟨_, rfl⟩
  rw [← hr]
  refine start hC (nf := N38_ref47_least) rfl rfl ?_
  simp [N38_ref47_least]
  refine loop_of (Nat × Int × Int) (fun s => [(1, slx b (vals.map fun r => [slI r])), (2, .int .i64 pipe), (3, .int .i64 height), (4, .ptr (jobC j)), (9, .int .i64 s.2.2), (10, .int .i64 s.1)])
    (fun s => s.1 ≤ vs.length ∧ s.2 = (List.range s.1).foldl (leastStep (okF j pipe height) vs) (-1, -1) ∧ ((s.2.2 = -1 ∧ s.2.1 = -1) ∨ ∃ k : Nat, k < vs.length ∧ s.2.2 = (k : Int) ∧ s.2.1 = vs[k]?.getD 0 ∧ 0 ≤ s.2.1)) (fun s => vs.length - s.1) (0, -1, -1) ⟨by simp, by simp, .inl ⟨rfl, rfl⟩⟩ (by simp [jobC_eq]) ?_
  rintro ⟨i, best, at_⟩ ⟨hi, hst, hat⟩
  simp only at hi hst hat
  simp [jobC_eq]
  refine brB_of (fun h => ?_) (fun h => ?_) <;> simp at h <;> simp [h]
  · have hw : IntKind.wrap .i64 ((i : Int) + 1) = ((i + 1 : Nat) : Int) := wrap_i64 (by omega) (by omega)
    have hiv : i < vs.length := by omega
    have hstep : (List.range (i + 1)).foldl (leastStep (okF j pipe height) vs) (-1, -1) = leastStep (okF j pipe height) vs (best, at_) i := by
      rw [List.range_succ, List.foldl_append, ← hst]; rfl
    have eo : okF j pipe height i = (possAt j pipe i && decide (j.secs[i].height ≤ height)) := by simp only [okF, getElem!_pos j.secs i h]
    have hge : -1 ≤ vs[i] := hcell _ (List.getElem_mem hiv)
    simp only [leastStep, getElem!_pos vs i hiv, eo] at hstep
    have hpc := rPossible_c hC j hv pipe i hp h
    simp only [jobC_eq, slI_slx] at hpc
    simp [hpv, ← hvs, hiv]
    by_cases c1 : 0 ≤ vs[i]
    · simp [c1, h, secC_eq, hw, hpv, ← hvs, hiv]
      by_cases c2 : j.secs[i].height ≤ height
      · simp [c2, hpv, ← hvs, hiv, c1, h, secC_eq]
        refine callW_of hpc (.inl rfl) ?_
        cases c3 : possAt j pipe i
        · simp [hw]
          exact ⟨indW_of (by decide +kernel), i + 1, best, at_, ⟨by omega, by rw [hstep]; simp [c3], hat⟩, by omega, by simp [jobC_eq], rfl, by simp⟩
        · simp [hpv, ← hvs, hiv]
          rcases hat with ⟨a1, a2⟩ | ⟨k, a1, a2, a3, a4⟩
          · simp [a1, hw]
            exact ⟨indW_of (by decide +kernel), i + 1, vs[i], (i : Int), ⟨by omega, by rw [hstep]; simp [c2, c3, a2, show ¬ vs[i] = -1 by omega], .inr ⟨i, hiv, rfl, by simp [hiv], c1⟩⟩, by omega, by simp [jobC_eq], rfl, by simp⟩
          · have a5 : ¬ (k : Int) < 0 := by omega
            have a6 : vs[k]?.getD 0 = vs[k] := by simp [a1]
            have a7 : best = vs[k] := by rw [a3, a6]
            simp [a5, a2, hpv, ← hvs, hiv, a1]
            by_cases c5 : vs[i] < vs[k]
            · simp [c5, hw]
              exact ⟨indW_of (by decide +kernel), i + 1, vs[i], (i : Int), ⟨by omega, by rw [hstep]; simp [c2, c3, a7, c5, show ¬ vs[i] = -1 by omega], .inr ⟨i, hiv, rfl, by simp [hiv], c1⟩⟩, by omega, by simp [jobC_eq], rfl, by simp⟩
            · simp [c5, hw]
              exact ⟨indW_of (by decide +kernel), i + 1, best, at_, ⟨by omega, by rw [hstep]; simp [a7, c5, show ¬ vs[k] = -1 by omega], .inr ⟨k, a1, a2, a3, a4⟩⟩, by omega, by simp [jobC_eq], a2.symm, by simp⟩
      · simp [c2, hw, hpv, ← hvs, hiv, c1, h, secC_eq]
        exact ⟨indW_of (by decide +kernel), i + 1, best, at_, ⟨by omega, by rw [hstep]; simp [c2], hat⟩, by omega, by simp [jobC_eq], rfl, by simp⟩
    · simp [c1, h, secC_eq, hw, hpv, ← hvs, hiv]
      exact ⟨indW_of (by decide +kernel), i + 1, best, at_, ⟨by omega, by rw [hstep]; simp [show vs[i] = -1 by omega], hat⟩, by omega, by simp [jobC_eq], rfl, by simp⟩
  · have : i = vs.length := by omega
    subst this
    rw [hr, leastF, ← hst]
end Go.Gv

set_option linter.unusedSimpArgs false
namespace Go.Gv

theorem S_mono {g : Nat → Int} (h : ∀ a, 0 ≤ g a) {m : Nat} : ∀ n, m ≤ n → S g m ≤ S g n
  | 0, hm => by obtain rfl : m = 0 := by omega
                exact Int.le_refl _
  | n + 1, hm => by
    rcases Nat.lt_or_ge n m with h1 | h1
    · obtain rfl : m = n + 1 := by omega
      exact Int.le_refl _
    · have h2 := S_mono h n h1
      have h3 := h n
      simp only [S]; omega
/-- The values above a pipe are bounded together. -/
def Bdd (j : Job) (val : Nat → List Int) (i : Nat) : Prop := ∃ g : Nat → Int, (∀ a, 0 ≤ g a) ∧ (∀ h a, a < i → lv j val h a ≤ g a) ∧ AS j g i ≤ 1152921504606846976
def SumUp (j : Job) (f : Nat → Int) (i k : Nat) : Int := S (fun a => if j.below.l[a]! = (i : Int) then f a else 0) k
def PosUp (j : Job) (f : Nat → Int) (i k : Nat) : Prop := ∀ a, a < k → j.below.l[a]! = (i : Int) → 0 ≤ f a
theorem SumUp_yes {j : Job} {f : Nat → Int} {i k : Nat} (h : j.below.l[k]! = (i : Int)) : SumUp j f i (k + 1) = SumUp j f i k + f k := by
  unfold SumUp; simp only [S]; rw [if_pos h]
theorem SumUp_no {j : Job} {f : Nat → Int} {i k : Nat} (h : ¬ j.below.l[k]! = (i : Int)) : SumUp j f i (k + 1) = SumUp j f i k := by
  unfold SumUp; simp only [S]; rw [if_neg h]; omega
theorem PosUp_yes {j : Job} {f : Nat → Int} {i k : Nat} (h : PosUp j f i k) (h2 : 0 ≤ f k) : PosUp j f i (k + 1) := fun a ha hb => by
  rcases Nat.lt_succ_iff_lt_or_eq.1 ha with h5 | rfl
  · exact h a h5 hb
  · exact h2
theorem PosUp_no {j : Job} {f : Nat → Int} {i k : Nat} (h : PosUp j f i k) (h2 : ¬ j.below.l[k]! = (i : Int)) : PosUp j f i (k + 1) := fun a ha hb => by
  rcases Nat.lt_succ_iff_lt_or_eq.1 ha with h5 | rfl
  · exact h a h5 hb
  · exact absurd hb h2
theorem SumUp_bd {j : Job} {f g : Nat → Int} {i k : Nat} (h : PosUp j f i k) (hg : ∀ a, 0 ≤ g a) (hfg : ∀ a, a < i → f a ≤ g a) (hk : k ≤ i) : 0 ≤ SumUp j f i k ∧ SumUp j f i k ≤ AS j g i := by
  constructor
  · refine S_nonneg _ (fun a ha => ?_)
    split
    · rename_i e; exact h a ha e
    · exact Int.le_refl _
  · refine Int.le_trans (S_le (g' := fun a => if j.below.l[a]! = (i : Int) then g a else 0) _ (fun a ha => ?_)) (S_mono (fun a => ?_) _ hk)
    · have := hfg a (by omega)
      split <;> omega
    · have := hg a
      split <;> omega
/-- Rows of values of a job. -/
structure RowsOk (j : Job) (vals : List SlI) : Prop where
  len : vals.length = j.below.l.length
  row : ∀ a, a < j.below.l.length → vals[a]!.l.length = j.secs.length
  cell : ∀ a, a < j.below.l.length → ∀ y ∈ vals[a]!.l, -1 ≤ y
theorem above_mem' {j : Job} {i a : Nat} (h : a ∈ aboveF j i) : j.below.l[a]! = (i : Int) := by
  simp only [aboveF, List.mem_filter, List.mem_range, decide_eq_true_eq] at h
  exact h.2
theorem lv_cases {j : Job} {vals : List SlI} (hr : RowsOk j vals) {a : Nat} (ha : a < j.below.l.length) (h : Int) :
    (lv j (rowsF vals) h a = -1 ∧ (leastF (okF j a h) (rowsF vals a)).2 = -1) ∨ ∃ t : Nat, t < vals[a]!.l.length ∧ (leastF (okF j a h) (rowsF vals a)).2 = (t : Int) ∧ lv j (rowsF vals) h a = vals[a]!.l[t]! ∧ 0 ≤ lv j (rowsF vals) h a := by
  unfold lv
  rcases least_spec (okF j a h) (rowsF vals a) with ⟨h1, _⟩ | ⟨t, h1, h2, h3, _⟩
  · rw [h1]; exact .inl ⟨rfl, rfl⟩
  · rw [h2]
    have := hr.cell a ha _ (get_mem h1)
    exact .inr ⟨t, h1, rfl, rfl, by simp only; rw [rowsF] at h3 ⊢; omega⟩
variable {C : CC} (hC : Closed prog C)
include hC
set_option maxHeartbeats 4000000 in
theorem rneeded_c (j : Job) (hv : jobValid j = true) (b : Bool) (vals : List SlI) (i s : Nat) (hi : i < j.below.l.length) (hs : s < j.secs.length) (hr : RowsOk j vals) (hb : Bdd j (rowsF vals) i) :
    C 37 [.agg (jobC j), slx b (vals.map fun r => [slI r]), .int .i64 i, .int .i64 s] (.int .i64 (costF j (rowsF vals) i s)) [] := by
  obtain ⟨g, g1, g2, g3⟩ := hb
  have hf := valid_facts hv
  have hil : i < j.lengths.l.length := by omega
  have hown := ownC_bd hv hi hs
  rw [B_eq] at hown
  obtain ⟨ht, hht⟩ : ∃ ht, ht = j.secs[s]!.height := ⟨_, rfl⟩
  have hht' : j.secs[s].height = ht := by rw [hht, getElem!_pos j.secs s hs]
  have hnn : ∀ a, a < j.below.l.length → lv j (rowsF vals) ht a = -1 ∨ 0 ≤ lv j (rowsF vals) ht a := fun a ha => by
    rcases lv_cases hr ha ht with h | ⟨t, _, _, _, h⟩
    · exact .inl h.1
    · exact .inr h
  have hAS : AS j (lv j (rowsF vals) ht) i ≤ 1152921504606846976 := by
    refine Int.le_trans ?_ g3
    refine S_le _ (fun a ha => ?_)
    have := g2 ht a ha
    split <;> omega
  have hfin := costF_eq hv (val := rowsF vals) hi hs (by rw [← hht]; exact fun a ha => hnn a (above_lt ha)) (by rw [← hht, above_sum hv _ hi]; intro _; omega)
  rw [← hht, above_sum hv _ hi] at hfin
  obtain ⟨r, hrr⟩ : ∃ r, r = costF j (rowsF vals) i s := ⟨_, rfl⟩
  rw [← hrr] at hfin ⊢
  have eo : ownC j i s = j.lengths.l[i] * j.secs[s].price := by rw [ownC, getElem!_pos _ i hil, getElem!_pos _ s hs]
  have hw0 : IntKind.wrap .i64 (j.lengths.l[i] * j.secs[s].price) = ownC j i s := by rw [← eo]; exact wrap_i64 rfl (by omega)
  refine start hC (nf := N37_ref47_needed) rfl rfl ?_
  simp [N37_ref47_needed, jobC_eq, hil, hs, secC_eq, hw0]
  refine ⟨indW_of (by decide +kernel), ?_⟩
  refine loop_of (Nat × Int) (fun x => [(1, slx b (vals.map fun r => [slI r])), (2, .int .i64 i), (3, .int .i64 s), (4, .ptr (jobC j)), (9, .int .i64 x.2), (10, .int .i64 x.1)])
    (fun x => x.1 ≤ i ∧ PosUp j (lv j (rowsF vals) ht) i x.1 ∧ x.2 = ownC j i s + SumUp j (lv j (rowsF vals) ht) i x.1) (fun x => i - x.1) (0, ownC j i s) ⟨by simp, fun a ha => by simp at ha, by simp [SumUp, S]⟩ (by simp [jobC_eq]) ?_
  rintro ⟨k, sum⟩ ⟨hk, hpos, hsum⟩
  simp only at hk hpos hsum
  simp [jobC_eq]
  refine brB_of (fun h => ?_) (fun h => ?_) <;> simp at h <;> simp [h]
  · have hki : k < i := by omega
    have hkb : k < j.below.l.length := by omega
    have hw : IntKind.wrap .i64 ((k : Int) + 1) = ((k + 1 : Nat) : Int) := wrap_i64 (by omega) (by omega)
    have hkv : k < vals.length := by have := hr.len; omega
    simp [hkb]
    refine brB_of (fun h2 => ?_) (fun h2 => ?_) <;> simp [hkb] at h2 <;> simp [h2, hkb]
    · have hb2 : j.below.l[k]! = (i : Int) := by rw [getElem!_pos j.below.l k hkb]; exact h2
      have hl := rleast_c hC j hv b vals k ht hkb hkv (hr.row k hkb) (hr.cell k hkb)
      simp only [jobC_eq, slI_slx] at hl
      simp [hs, secC_eq, hht']
      refine callW_of hl (.inl rfl) ?_
      rcases lv_cases hr hkb ht with ⟨v1, v2⟩ | ⟨t, v1, v2, v3, v4⟩
      · rw [v2]
        simp
        refine ⟨indW_of (by decide +kernel), ?_⟩
        rcases hfin with ⟨_, e⟩ | ⟨e, _⟩
        · exact e.symm
        · exact absurd v1 (e k (mem_above hkb hb2))
      · rw [v2]
        rw [getElem!_pos vals k hkv] at v1 v3
        rw [getElem!_pos _ t v1] at v3
        have hs1 := SumUp_bd (k := k + 1) (PosUp_yes hpos v4) g1 (g2 ht) (by omega)
        have hs2 := SumUp_bd (k := k) hpos g1 (g2 ht) (by omega)
        rw [SumUp_yes hb2] at hs1
        have t0 : ¬ (t : Int) < 0 := by omega
        have hw1 : IntKind.wrap .i64 (4611686018427387904 - sum) = 4611686018427387904 - sum := wrap_i64 rfl (by omega)
        have hw2 : IntKind.wrap .i64 (sum + vals[k].l[t]) = sum + vals[k].l[t] := wrap_i64 rfl (by omega)
        have hng : ¬ 4611686018427387904 - sum < vals[k].l[t] := by omega
        simp [t0]
        refine ⟨indW_of (by decide +kernel), ?_⟩
        simp [hkv, v1, hw1, hng, hw2, hw]
        exact ⟨k + 1, _, ⟨by omega, PosUp_yes hpos v4, by rw [SumUp_yes hb2, v3, hsum]; omega⟩, by omega, by simp [jobC_eq], rfl, by simp⟩
    · have hb2 : ¬ j.below.l[k]! = (i : Int) := by rw [getElem!_pos j.below.l k hkb]; exact h2
      simp [hw]
      exact ⟨k + 1, sum, ⟨by omega, PosUp_no hpos hb2, by rw [SumUp_no hb2]; exact hsum⟩, by omega, by simp [jobC_eq], rfl, by simp⟩
  · obtain rfl : k = i := by omega
    rcases hfin with ⟨⟨a, ha, e⟩, _⟩ | ⟨_, e⟩
    · have := hpos a (above_less hv ha) (above_mem' ha)
      omega
    · rw [hsum, e]
      rfl
end Go.Gv

set_option linter.unusedSimpArgs false
namespace Go.Gv

def gP (j : Job) (vals : List SlI) (a : Nat) : Int := mx ((List.range j.secs.length).map fun s => if possAt j a s then (rowsF vals a)[s]! else 0)
theorem gP_nn (j : Job) (vals : List SlI) (a : Nat) : 0 ≤ gP j vals a := (mx_spec _ 0).1
theorem gP_lv {j : Job} {vals : List SlI} (hr : RowsOk j vals) {a : Nat} (ha : a < j.below.l.length) (h : Int) : lv j (rowsF vals) h a ≤ gP j vals a := by
  have h0 := gP_nn j vals a
  rcases lv_spec j (rowsF vals) h a with ⟨h1, _⟩ | ⟨t, h1, h2, _, h4, _⟩
  · omega
  · rw [h2]
    have hl : t < j.secs.length := by rw [← hr.row a ha]; exact h1
    have hp : possAt j a t = true := by simp only [okF, Bool.and_eq_true] at h4; exact h4.1
    refine (mx_spec _ 0).2 _ (List.mem_map.2 ⟨t, by simpa using hl, by rw [if_pos hp]⟩)
theorem badV_iff {j : Job} {vals : List SlI} {i s : Nat} (hp : possAt j i s = true) : badV j vals i s = false ↔ (costF j (rowsF vals) i s = -1 → (rowsF vals i)[s]! = -1) ∧ (costF j (rowsF vals) i s ≠ -1 → (rowsF vals i)[s]! ≠ -1 ∧ (rowsF vals i)[s]! ≤ costF j (rowsF vals) i s) := by
  rw [badV, hp]
  generalize costF j (rowsF vals) i s = c
  generalize (rowsF vals i)[s]! = v
  by_cases h1 : c = -1
  · simp [h1]
  · by_cases h2 : v = -1
    · simp [h1, h2]
    · simp [h1, h2]
theorem good_FS {j : Job} (hv : jobValid j = true) {vals : List SlI} (hr : RowsOk j vals) : ∀ i, i ≤ j.below.l.length → (∀ a, a < i → badP j vals a = false) → FS j (gP j vals) i ≤ i * B
  | 0, _, _ => by simp [FS, S]
  | i + 1, hi, hg => by
    have ih := good_FS hv hr i (by omega) (fun a ha => hg a (by omega))
    have hil : i < j.below.l.length := by omega
    have h1 := FS_step hv (gP j vals) hil
    have h2 := AS_le_FS (j := j) (i := i) (f := gP j vals) (fun a _ => gP_nn j vals a)
    have hf := valid_facts hv
    have hiB : (i : Int) * B ≤ 400 * B := Int.mul_le_mul_of_nonneg_right (by omega) (by rw [B_eq]; omega)
    have hA0 : 0 ≤ AS j (gP j vals) i := S_nonneg _ (fun a _ => by have := gP_nn j vals a; split <;> omega)
    have key : gP j vals i ≤ B + AS j (gP j vals) i := by
      refine mx_bd (by rw [B_eq]; omega) (fun x hx => ?_)
      obtain ⟨s, hs, rfl⟩ := List.mem_map.1 hx
      rw [List.mem_range] at hs
      by_cases hp : possAt j i s = true
      · rw [if_pos hp]
        have hown := ownC_bd hv hil hs
        have hbv : badV j vals i s = false := by
          have := hg i (by omega)
          rw [badP, List.any_eq_false] at this
          simpa using this s (by simpa using hs)
        have hnn : ∀ a ∈ aboveF j i, lv j (rowsF vals) j.secs[s]!.height a = -1 ∨ 0 ≤ lv j (rowsF vals) j.secs[s]!.height a := fun a ha => by
          rcases lv_cases hr (above_lt ha) j.secs[s]!.height with h | ⟨t, _, _, _, h⟩
          · exact .inl h.1
          · exact .inr h
        have hsum : ((aboveF j i).map (lv j (rowsF vals) j.secs[s]!.height)).sum ≤ AS j (gP j vals) i := by
          rw [← above_sum hv _ hil]
          exact list_sum_le (fun a ha => gP_lv hr (above_lt ha) _)
        rw [B_eq] at hiB ih hown
        obtain ⟨k1, k2⟩ := (badV_iff hp).1 hbv
        rcases costF_eq hv (val := rowsF vals) hil hs hnn (fun _ => by omega) with ⟨_, e⟩ | ⟨hall, e⟩
        · have := k1 e
          rw [this, B_eq]; omega
        · have h5 := list_sum_nn (fun a ha => (hnn a ha).resolve_left (hall a ha))
          have := k2 (by omega)
          rw [B_eq]
          omega
      · rw [if_neg hp, B_eq]; omega
    have e : ((i + 1 : Nat) : Int) * B = i * B + B := by rw [Int.natCast_add, Int.add_mul]; simp
    rw [e]; omega
theorem good_Bdd {j : Job} (hv : jobValid j = true) (hn : j.below.l.length ≤ 12) {vals : List SlI} (hr : RowsOk j vals) {i : Nat} (hi : i ≤ j.below.l.length) (hg : ∀ a, a < i → badP j vals a = false) : Bdd j (rowsF vals) i := by
  refine ⟨gP j vals, gP_nn j vals, fun h a ha => gP_lv hr (by omega) h, ?_⟩
  have h1 := good_FS hv hr i hi hg
  have h2 := AS_le_FS (j := j) (i := i) (f := gP j vals) (fun a _ => gP_nn j vals a)
  have hiB : (i : Int) * B ≤ 12 * B := Int.mul_le_mul_of_nonneg_right (by omega) (by rw [B_eq]; omega)
  rw [B_eq] at h1 hiB
  omega
end Go.Gv

set_option linter.unusedSimpArgs false
namespace Go.Gv

def refChk (j : Job) (vals : List SlI) : Int := match (List.range j.below.l.length).find? (badP j vals) with
  | some i => i
  | none => -1
theorem refChk_some {j : Job} {vals : List SlI} {i : Nat} (hi : i < j.below.l.length) (h : ∀ k, k < i → badP j vals k = false) (hb : badP j vals i = true) : refChk j vals = (i : Int) := by
  unfold refChk
  have : (List.range j.below.l.length).find? (badP j vals) = some i := by
    rw [List.find?_eq_some_iff_getElem]
    exact ⟨hb, i, by simpa using hi, by simp, fun k hk => by simp [h k hk]⟩
  rw [this]
theorem refChk_none {j : Job} {vals : List SlI} (h : ∀ k, k < j.below.l.length → badP j vals k = false) : refChk j vals = -1 := by
  unfold refChk
  have : (List.range j.below.l.length).find? (badP j vals) = none := by
    rw [List.find?_eq_none]
    intro k hk
    rw [List.mem_range] at hk
    rw [h k hk]; simp
  rw [this]
def BadUp (j : Job) (vals : List SlI) (i s : Nat) : Prop := ∀ t, t < s → badV j vals i t = false
theorem BadUp_next {j : Job} {vals : List SlI} {i s : Nat} (h : BadUp j vals i s) (h2 : badV j vals i s = false) : BadUp j vals i (s + 1) := fun t ht => by
  rcases Nat.lt_succ_iff_lt_or_eq.1 ht with h5 | rfl
  · exact h t h5
  · exact h2
theorem BadUp_all {j : Job} {vals : List SlI} {i : Nat} (h : BadUp j vals i j.secs.length) : badP j vals i = false := by
  rw [badP, List.any_eq_false]
  intro s hs
  rw [h s (by simpa using hs)]; simp
theorem badP_of {j : Job} {vals : List SlI} {i s : Nat} (hs : s < j.secs.length) (h : badV j vals i s = true) : badP j vals i = true := List.any_eq_true.2 ⟨s, by simpa using hs, h⟩
theorem costF_ge {j : Job} (hv : jobValid j = true) {vals : List SlI} (hr : RowsOk j vals) {i s : Nat} (hi : i < j.below.l.length) (hs : s < j.secs.length) (hb : Bdd j (rowsF vals) i) : -1 ≤ costF j (rowsF vals) i s := by
  obtain ⟨g, g1, g2, g3⟩ := hb
  have hnn : ∀ a ∈ aboveF j i, lv j (rowsF vals) j.secs[s]!.height a = -1 ∨ 0 ≤ lv j (rowsF vals) j.secs[s]!.height a := fun a ha => by
    rcases lv_cases hr (above_lt ha) j.secs[s]!.height with h | ⟨t, _, _, _, h⟩
    · exact .inl h.1
    · exact .inr h
  have hsum : ((aboveF j i).map (lv j (rowsF vals) j.secs[s]!.height)).sum ≤ AS j g i := by
    rw [← above_sum hv _ hi]
    exact list_sum_le (fun a ha => g2 _ a (above_less hv ha))
  have hown := ownC_bd hv hi hs
  rcases costF_eq hv (val := rowsF vals) hi hs hnn (fun _ => by omega) with ⟨_, e⟩ | ⟨hall, e⟩
  · omega
  · have h5 := list_sum_nn (fun a ha => (hnn a ha).resolve_left (hall a ha))
    omega
variable {C : CC} (hC : Closed prog C)
include hC
set_option maxHeartbeats 4000000 in
theorem rChecked_c (j : Job) (hv : jobValid j = true) (hn : j.below.l.length ≤ 12) (b : Bool) (vals : List SlI) (hr : RowsOk j vals) :
    C 13 [.agg (jobC j), slx b (vals.map fun r => [slI r])] (.int .i64 (refChk j vals)) [] := by
  obtain ⟨r, hrr⟩ : ∃ r, r = refChk j vals := ⟨_, rfl⟩
  have hf := valid_facts hv
  rw [← hrr]
  refine start hC (nf := N13_ref47_Checked) rfl rfl ?_
  simp [N13_ref47_Checked]
  refine loop_of Nat (fun i => [(1, slx b (vals.map fun r => [slI r])), (2, .ptr (jobC j)), (5, .int .i64 i)])
    (fun i => i ≤ j.below.l.length ∧ ∀ k, k < i → badP j vals k = false) (fun i => j.below.l.length - i) 0 (by simp) (by simp [jobC_eq]) ?_
  rintro i ⟨hi, hg⟩
  simp [jobC_eq]
  refine brB_of (fun h => ?_) (fun h => ?_) <;> simp at h <;> simp [h]
  · have hw : IntKind.wrap .i64 ((i : Int) + 1) = ((i + 1 : Nat) : Int) := wrap_i64 (by omega) (by omega)
    have hB := good_Bdd hv hn hr hi hg
    refine loop_of Nat (fun s => [(1, slx b (vals.map fun r => [slI r])), (2, .ptr (jobC j)), (5, .int .i64 i), (6, .int .i64 s)])
      (fun s => s ≤ j.secs.length ∧ BadUp j vals i s) (fun s => j.secs.length - s) 0 ⟨by simp, fun t ht => by simp at ht⟩ (by simp [jobC_eq]) ?_
    rintro s ⟨hs, hup⟩
    simp [jobC_eq]
    refine brB_of (fun h1 => ?_) (fun h1 => ?_) <;> simp at h1 <;> simp [h1]
    · have hw1 : IntKind.wrap .i64 ((s : Int) + 1) = ((s + 1 : Nat) : Int) := wrap_i64 (by omega) (by omega)
      have hp := rPossible_c hC j hv i s h h1
      have hnd := rneeded_c hC j hv b vals i s h h1 hr hB
      have hge := costF_ge hv hr h h1 hB
      have hiv : i < vals.length := by rw [hr.len]; exact h
      have hsv : s < vals[i].l.length := by have := hr.row i h; rw [getElem!_pos vals i hiv] at this; omega
      have hcl : -1 ≤ vals[i].l[s] := by
        have := hr.cell i h
        rw [getElem!_pos vals i hiv] at this
        exact this _ (List.getElem_mem hsv)
      have hbv := badV_iff (j := j) (vals := vals) (i := i) (s := s)
      have ev : (rowsF vals i)[s]! = vals[i].l[s] := by rw [rowsF, getElem!_pos vals i hiv, getElem!_pos _ s hsv]
      rw [ev] at hbv
      obtain ⟨c, hc⟩ : ∃ c, c = costF j (rowsF vals) i s := ⟨_, rfl⟩
      rw [← hc] at hnd hge hbv
      simp only [jobC_eq, slI_slx] at hp hnd
      have bad : badV j vals i s = true → (i : Int) = r := fun e => by rw [hrr, refChk_some h hg (badP_of h1 e)]
      refine callW_of hp (.inl rfl) ?_
      cases c0 : possAt j i s
      · simp [hw1]
        exact ⟨s + 1, ⟨by omega, BadUp_next hup (by rw [badV, c0]; rfl)⟩, by omega, by simp [jobC_eq], by simp⟩
      simp
      refine callW_of hnd (.inl rfl) ?_
      simp
      have hbv := hbv c0
      by_cases c1 : 0 ≤ c
      · simp [c1, hiv, hsv]
        by_cases c2 : vals[i].l[s] < 0
        · simp [c2]
          exact bad (by rw [← Bool.not_eq_false, hbv]; intro e; have := e.2 (by omega); omega)
        · simp [c2, hiv, hsv]
          by_cases c3 : c < vals[i].l[s]
          · simp [c3]
            exact bad (by rw [← Bool.not_eq_false, hbv]; intro e; have := e.2 (by omega); omega)
          · have c4 : ¬ c < 0 := by omega
            simp [c3, c4, hw1]
            exact ⟨s + 1, ⟨by omega, BadUp_next hup (hbv.2 ⟨fun e => by omega, fun _ => ⟨by omega, by omega⟩⟩)⟩, by omega, by simp [jobC_eq], by simp⟩
      · have c4 : c < 0 := by omega
        simp [c1, c4, hiv, hsv]
        by_cases c5 : vals[i].l[s] = -1
        · simp [c5, hw1]
          exact ⟨s + 1, ⟨by omega, BadUp_next hup (hbv.2 ⟨fun _ => c5, fun e => by omega⟩)⟩, by omega, by simp [jobC_eq], by simp⟩
        · simp [c5]
          exact bad (by rw [← Bool.not_eq_false, hbv]; intro e; have := e.1 (by omega); omega)
    · obtain rfl : s = j.secs.length := by omega
      simp [hw]
      refine ⟨i + 1, ⟨by omega, fun k hk => ?_⟩, by omega, by simp [jobC_eq], by simp⟩
      rcases Nat.lt_succ_iff_lt_or_eq.1 hk with h5 | rfl
      · exact hg k h5
      · exact BadUp_all hup
  · rw [hrr, refChk_none (fun k hk => hg k (by omega))]
end Go.Gv

set_option linter.unusedSimpArgs false
namespace Go.Gv

def SumR (j : Job) (f : Nat → Int) (k : Nat) : Int := S (fun a => if j.below.l[a]! = -1 then f a else 0) k
def PosR (j : Job) (f : Nat → Int) (k : Nat) : Prop := ∀ a, a < k → j.below.l[a]! = -1 → 0 ≤ f a
theorem SumR_yes {j : Job} {f : Nat → Int} {k : Nat} (h : j.below.l[k]! = -1) : SumR j f (k + 1) = SumR j f k + f k := by
  unfold SumR; simp only [S]; rw [if_pos h]
theorem SumR_no {j : Job} {f : Nat → Int} {k : Nat} (h : ¬ j.below.l[k]! = -1) : SumR j f (k + 1) = SumR j f k := by
  unfold SumR; simp only [S]; rw [if_neg h]; omega
theorem PosR_yes {j : Job} {f : Nat → Int} {k : Nat} (h : PosR j f k) (h2 : 0 ≤ f k) : PosR j f (k + 1) := fun a ha hb => by
  rcases Nat.lt_succ_iff_lt_or_eq.1 ha with h5 | rfl
  · exact h a h5 hb
  · exact h2
theorem PosR_no {j : Job} {f : Nat → Int} {k : Nat} (h : PosR j f k) (h2 : ¬ j.below.l[k]! = -1) : PosR j f (k + 1) := fun a ha hb => by
  rcases Nat.lt_succ_iff_lt_or_eq.1 ha with h5 | rfl
  · exact h a h5 hb
  · exact absurd hb h2
theorem SumR_all (j : Job) (f : Nat → Int) : ((rootsF j).map f).sum = SumR j f j.below.l.length := by
  unfold rootsF SumR
  rw [sum_filter]
  exact S_congr _ (fun a _ => by simp only [decide_eq_true_eq])
theorem SumR_bd {j : Job} {f g : Nat → Int} {k : Nat} (h : PosR j f k) (hg : ∀ a, 0 ≤ g a) (hfg : ∀ a, a < j.below.l.length → f a ≤ g a) (hk : k ≤ j.below.l.length) : 0 ≤ SumR j f k ∧ SumR j f k ≤ SumR j g j.below.l.length := by
  constructor
  · refine S_nonneg _ (fun a ha => ?_)
    split
    · rename_i e; exact h a ha e
    · exact Int.le_refl _
  · refine Int.le_trans (S_le (g' := fun a => if j.below.l[a]! = -1 then g a else 0) _ (fun a ha => ?_)) (S_mono (fun a => ?_) _ hk)
    · have := hfg a (by omega)
      split <;> omega
    · have := hg a
      split <;> omega
theorem bound_cases {j : Job} {val : Nat → List Int} (hp : ∀ a ∈ rootsF j, lv j val 4194304 a = -1 ∨ 0 ≤ lv j val 4194304 a) (hb : ((rootsF j).map (lv j val 4194304)).sum ≤ 9000000000000000000) :
    ((∃ a ∈ rootsF j, lv j val 4194304 a = -1) ∧ boundF j val = -1) ∨ ((∀ a ∈ rootsF j, lv j val 4194304 a ≠ -1) ∧ boundF j val = ((rootsF j).map (lv j val 4194304)).sum) := by
  by_cases hx : ∃ a ∈ rootsF j, lv j val 4194304 a = -1
  · obtain ⟨a, ha, h3⟩ := hx
    exact .inl ⟨⟨a, ha, h3⟩, by rw [boundF, sumG_bad ha h3]; rfl⟩
  · have hx' : ∀ a ∈ rootsF j, lv j val 4194304 a ≠ -1 := fun a ha e => hx ⟨a, ha, e⟩
    refine .inr ⟨hx', ?_⟩
    rw [boundF, sumG_eq hx' (fun a ha => (hp a ha).resolve_left (hx' a ha)) (Int.le_refl _) (by omega)]
    simp
theorem mem_roots {j : Job} {a : Nat} (h : a < j.below.l.length) (h2 : j.below.l[a]! = -1) : a ∈ rootsF j := by
  simp only [rootsF, List.mem_filter, List.mem_range, decide_eq_true_eq]
  exact ⟨h, h2⟩
variable {C : CC} (hC : Closed prog C)
include hC
set_option maxHeartbeats 4000000 in
theorem rSum_c (j : Job) (hv : jobValid j = true) (hn : j.below.l.length ≤ 12) (b : Bool) (vals : List SlI) (hr : RowsOk j vals) (hg : ∀ k, k < j.below.l.length → badP j vals k = false) :
    C 14 [.agg (jobC j), slx b (vals.map fun r => [slI r])] (.int .i64 (boundF j (rowsF vals))) [] := by
  have hFS := good_FS hv hr j.below.l.length (Nat.le_refl _) hg
  rw [← roots_sum hv, SumR_all] at hFS
  have hiB : (j.below.l.length : Int) * B ≤ 12 * B := Int.mul_le_mul_of_nonneg_right (by omega) (by rw [B_eq]; omega)
  rw [B_eq] at hFS hiB
  have hnn : ∀ a, a < j.below.l.length → lv j (rowsF vals) 4194304 a = -1 ∨ 0 ≤ lv j (rowsF vals) 4194304 a := fun a ha => by
    rcases lv_cases hr ha 4194304 with h | ⟨t, _, _, _, h⟩
    · exact .inl h.1
    · exact .inr h
  have hsum : ((rootsF j).map (lv j (rowsF vals) 4194304)).sum ≤ SumR j (gP j vals) j.below.l.length := by
    rw [← SumR_all]
    exact list_sum_le (fun a ha => gP_lv hr (root_mem ha).1 _)
  have hfin := bound_cases (j := j) (val := rowsF vals) (fun a ha => hnn a (root_mem ha).1) (by omega)
  rw [SumR_all] at hfin
  obtain ⟨r, hrr⟩ : ∃ r, r = boundF j (rowsF vals) := ⟨_, rfl⟩
  rw [← hrr] at hfin ⊢
  refine start hC (nf := N14_ref47_Sum) rfl rfl ?_
  simp [N14_ref47_Sum]
  refine loop_of (Nat × Int) (fun x => [(1, slx b (vals.map fun r => [slI r])), (2, .ptr (jobC j)), (5, .int .i64 x.2), (6, .int .i64 x.1)])
    (fun x => x.1 ≤ j.below.l.length ∧ PosR j (lv j (rowsF vals) 4194304) x.1 ∧ x.2 = SumR j (lv j (rowsF vals) 4194304) x.1) (fun x => j.below.l.length - x.1) (0, 0) ⟨by simp, fun a ha => by simp at ha, by simp [SumR, S]⟩ (by simp [jobC_eq]) ?_
  rintro ⟨k, sum⟩ ⟨hk, hpos, hsm⟩
  simp only at hk hpos hsm
  simp [jobC_eq]
  refine brB_of (fun h => ?_) (fun h => ?_) <;> simp at h <;> simp [h]
  · have hw : IntKind.wrap .i64 ((k : Int) + 1) = ((k + 1 : Nat) : Int) := wrap_i64 (by omega) (by omega)
    have hkv : k < vals.length := by have := hr.len; omega
    have hbv := valid_below hv h
    rw [getElem!_pos j.below.l k h] at hbv
    refine brB_of (fun h2 => ?_) (fun h2 => ?_) <;> simp [h] at h2 <;> simp [h2, h]
    · have hb2 : j.below.l[k]! = -1 := by rw [getElem!_pos j.below.l k h]; omega
      have hl := rleast_c hC j hv b vals k 4194304 h hkv (hr.row k h) (hr.cell k h)
      simp only [jobC_eq, slI_slx] at hl
      refine callW_of hl (.inl rfl) ?_
      rcases lv_cases hr h 4194304 with ⟨v1, v2⟩ | ⟨t, v1, v2, v3, v4⟩
      · rw [v2]
        simp
        rcases hfin with ⟨_, e⟩ | ⟨e, _⟩
        · exact e.symm
        · exact absurd v1 (e k (mem_roots h hb2))
      · rw [v2]
        rw [getElem!_pos vals k hkv] at v1 v3
        rw [getElem!_pos _ t v1] at v3
        have hs1 := SumR_bd (k := k + 1) (PosR_yes hpos v4) (gP_nn j vals) (fun a ha => gP_lv hr ha 4194304) (by omega)
        rw [SumR_yes hb2] at hs1
        have hs2 := SumR_bd (k := k) hpos (gP_nn j vals) (fun a ha => gP_lv hr ha 4194304) (by omega)
        have t0 : ¬ (t : Int) < 0 := by omega
        have hw2 : IntKind.wrap .i64 (sum + vals[k].l[t]) = sum + vals[k].l[t] := wrap_i64 rfl (by omega)
        simp [t0, hkv, v1, hw2, hw]
        exact ⟨k + 1, _, ⟨by omega, PosR_yes hpos v4, by rw [SumR_yes hb2, v3, hsm]⟩, by omega, by simp [jobC_eq], rfl, by simp⟩
    · have hb2 : ¬ j.below.l[k]! = -1 := by rw [getElem!_pos j.below.l k h]; omega
      simp [hw]
      exact ⟨k + 1, sum, ⟨by omega, PosR_no hpos hb2, by rw [SumR_no hb2]; exact hsm⟩, by omega, by simp [jobC_eq], rfl, by simp⟩
  · obtain rfl : k = j.below.l.length := by omega
    rcases hfin with ⟨⟨a, ha, e⟩, _⟩ | ⟨_, e⟩
    · have := hpos a (root_mem ha).1 (root_mem ha).2
      omega
    · rw [hsm, e]
end Go.Gv

set_option linter.unusedSimpArgs false
namespace Go.Gv

def belowOk (j : Job) (i : Nat) : Bool := j.below.l[i]! == -1 || (decide ((i : Int) < j.below.l[i]!) && decide (j.below.l[i]! < j.below.l.length))
theorem all_idx {l : List Int} {lo hi : Int} : (l.all fun n => inR n lo hi) = true ↔ ∀ i, i < l.length → inR l[i]! lo hi = true := by
  rw [List.all_eq_true]
  constructor
  · intro h i hi
    rw [getElem!_pos l i hi]
    exact h _ (List.getElem_mem hi)
  · intro h x hx
    obtain ⟨i, hi, rfl⟩ := List.getElem_of_mem hx
    have := h i hi
    rwa [getElem!_pos l i hi] at this
theorem pipes_iff {j : Job} (h1 : j.lengths.l.length = j.below.l.length) (h2 : j.flows.l.length = j.below.l.length) (h3 : j.falls.l.length = j.below.l.length) (h4 : j.room.l.length = j.below.l.length) (hb : ∀ i, i < j.below.l.length → belowOk j i = true) :
    (List.range j.below.l.length).all (pipeOk j) = ((j.lengths.l.all fun n => inR n 1 16777216) && (j.flows.l.all fun n => inR n 0 1099511627776) && (j.falls.l.all fun n => inR n 0 4194304) && (j.room.l.all fun n => inR n 0 4194304)) := by
  rw [Bool.eq_iff_iff, Bool.and_eq_true, Bool.and_eq_true, Bool.and_eq_true, all_idx, all_idx, all_idx, all_idx, List.all_eq_true, h1, h2, h3, h4]
  constructor
  · intro h
    have key : ∀ i, i < j.below.l.length → inR j.lengths.l[i]! 1 16777216 = true ∧ inR j.flows.l[i]! 0 1099511627776 = true ∧ inR j.falls.l[i]! 0 4194304 = true ∧ inR j.room.l[i]! 0 4194304 = true := fun i hi => by
      have := h i (by simpa using hi)
      simp only [pipeOk, Bool.and_eq_true] at this
      exact ⟨this.1.1.1.2, this.1.1.2, this.1.2, this.2⟩
    exact ⟨⟨⟨fun i hi => (key i hi).1, fun i hi => (key i hi).2.1⟩, fun i hi => (key i hi).2.2.1⟩, fun i hi => (key i hi).2.2.2⟩
  · rintro ⟨⟨⟨k1, k2⟩, k3⟩, k4⟩ i hi
    rw [List.mem_range] at hi
    have h0 := hb i hi
    rw [belowOk] at h0
    rw [pipeOk, h0, k1 i hi, k2 i hi, k3 i hi, k4 i hi]
    rfl
variable {C : CC} (hC : Closed prog C)
include hC
set_option maxHeartbeats 2000000 in
theorem rValid_c (j : Job) : C 8 [.agg (jobC j)] (.bool (jobValid j)) [] := by
  refine start hC (nf := N8_ref47_Valid) rfl rfl ?_
  simp [N8_ref47_Valid, jobC_eq]
  refine brB_of (fun h => ?_) (fun h => ?_) <;> simp [h] <;> simp at h
  · simp [jobValid]; omega
  refine brB_of (fun h2 => ?_) (fun h2 => ?_) <;> simp at h2 <;> simp [h2]
  · rw [jobValid]; simp; omega
  refine brB_of (fun h3 => ?_) (fun h3 => ?_) <;> simp at h3 <;> simp [h3]
  · rw [jobValid]; simp; omega
  refine brB_of (fun h4 => ?_) (fun h4 => ?_) <;> simp at h4 <;> simp [h4]
  · rw [jobValid]; simp; omega
  refine brB_of (fun h5 => ?_) (fun h5 => ?_) <;> simp at h5 <;> simp [h5]
  · rw [jobValid]; simp; omega
  refine brB_of (fun h6 => ?_) (fun h6 => ?_) <;> simp at h6 <;> simp [h6]
  · have h6' : ¬ 0 < j.secs.length := by omega
    simp [jobValid, h6']
  refine callW_of (rcat_c hC _ _) (.inl rfl) ?_
  cases h7 : catValid j.secs
  · simp [jobValid, h7]
  simp
  have bad : ∀ i, i < j.below.l.length → belowOk j i = false → jobValid j = false := fun i hi e => by
    simp only [jobValid, Bool.and_eq_false_iff, List.all_eq_false]
    refine .inr ⟨i, by simpa using hi, ?_⟩
    rw [belowOk] at e
    rw [pipeOk, e]
    simp
  have next : ∀ i, belowOk j i = true → (∀ k, k < i → belowOk j k = true) → ∀ k, k < i + 1 → belowOk j k = true := fun i e hk k hk2 => by
    rcases Nat.lt_succ_iff_lt_or_eq.1 hk2 with h5 | rfl
    · exact hk k h5
    · exact e
  refine loop_of Nat (fun i => [(1, .ptr (jobC j)), (3, .int .i64 j.below.l.length), (4, .int .i64 i)]) (fun i => i ≤ j.below.l.length ∧ ∀ k, k < i → belowOk j k = true) (fun i => j.below.l.length - i) 0 (by simp) (by simp [jobC_eq]) ?_
  rintro i ⟨hi, hok⟩
  simp [jobC_eq]
  refine brB_of (fun h8 => ?_) (fun h8 => ?_) <;> simp at h8 <;> simp [h8]
  · have hw : IntKind.wrap .i64 ((i : Int) + 1) = ((i + 1 : Nat) : Int) := wrap_i64 (by omega) (by omega)
    have hb1 : j.below.l[i]! = j.below.l[i] := getElem!_pos j.below.l i h8
    have bo : belowOk j i = (j.below.l[i] == -1 || (decide ((i : Int) < j.below.l[i]) && decide (j.below.l[i] < j.below.l.length))) := by rw [belowOk, hb1]
    by_cases c1 : j.below.l[i] = -1
    · simp [h8, c1, hw]
      exact ⟨i + 1, ⟨by omega, next i (by rw [bo, c1]; rfl) hok⟩, by omega, by simp [jobC_eq], by simp⟩
    · by_cases c2 : j.below.l[i] ≤ (i : Int)
      · simp [h8, c1, c2]
        exact bad i h8 (by rw [bo]; simp [c1]; omega)
      · by_cases c3 : (j.below.l.length : Int) ≤ j.below.l[i]
        · simp [h8, c1, c2, c3]
          exact bad i h8 (by rw [bo]; simp [c1]; omega)
        · simp [h8, c1, c2, c3, hw]
          exact ⟨i + 1, ⟨by omega, next i (by rw [bo]; simp; omega) hok⟩, by omega, by simp [jobC_eq], by simp⟩
  · have hp := pipes_iff (j := j) (by omega) (by omega) (by omega) (by omega) (fun k hk => hok k (by omega))
    have hvd : jobValid j = (List.range j.below.l.length).all (pipeOk j) := by
      rw [jobValid, h7, decide_eq_true (show j.below.l.length ≤ 400 by omega), decide_eq_true (show j.lengths.l.length = j.below.l.length by omega), decide_eq_true (show j.flows.l.length = j.below.l.length by omega), decide_eq_true (show j.falls.l.length = j.below.l.length by omega), decide_eq_true (show j.room.l.length = j.below.l.length by omega), decide_eq_true (show 0 < j.secs.length by omega)]
      simp only [Bool.true_and]
    rw [hvd, hp]
    have r1 := ranges_c hC j.lengths.n j.lengths.l 1 16777216 (by omega)
    have r2 := ranges_c hC j.flows.n j.flows.l 0 1099511627776 (by omega)
    have r3 := ranges_c hC j.falls.n j.falls.l 0 4194304 (by omega)
    have r4 := ranges_c hC j.room.n j.room.l 0 4194304 (by omega)
    obtain ⟨q1, e1⟩ : ∃ q1, q1 = j.lengths.l.all fun n => inR n 1 16777216 := ⟨_, rfl⟩
    obtain ⟨q2, e2⟩ : ∃ q2, q2 = j.flows.l.all fun n => inR n 0 1099511627776 := ⟨_, rfl⟩
    obtain ⟨q3, e3⟩ : ∃ q3, q3 = j.falls.l.all fun n => inR n 0 4194304 := ⟨_, rfl⟩
    obtain ⟨q4, e4⟩ : ∃ q4, q4 = j.room.l.all fun n => inR n 0 4194304 := ⟨_, rfl⟩
    rw [← e1] at r1 ⊢
    rw [← e2] at r2 ⊢
    rw [← e3] at r3 ⊢
    rw [← e4] at r4 ⊢
    refine callW_of r1 (.inl rfl) ?_
    cases q1
    · simp
    simp
    refine callW_of r2 (.inl rfl) ?_
    cases q2
    · simp
    simp
    refine callW_of r3 (.inl rfl) ?_
    cases q3
    · simp
    simp
    refine callW_of r4 (.inl rfl) ?_
    cases q4 <;> simp
end Go.Gv

set_option linter.unusedSimpArgs false
namespace Go.Gv
def long12 (x : SlI) : Bool := decide (12 < x.l.length)
variable {C : CC} (hC : Closed prog C)
include hC
theorem long12_c (x : SlI) : C 6 [slI x] (.bool (long12 x)) [] := by
  refine start hC (nf := N6_law47_SizingChecks_1) rfl rfl ?_
  simp [N6_law47_SizingChecks_1, long12]
  omega
theorem lenNot_c (j : Job) (x : SlI) : C 9 [slI x, .ptr (jobC j)] (.bool (decide (x.l.length ≠ j.secs.length))) [] := by
  refine start hC (nf := N9_law47_SizingChecks_2) rfl rfl ?_
  simp [N9_law47_SizingChecks_2, jobC_eq]
  omega
theorem rwideV_c (v : Int) : C 12 [.int .i64 v] (.bool (wideV v)) [] := by
  refine start hC (nf := N12_law47_SizingChecks_3_1) rfl rfl ?_
  have e : wideV v = (decide (v < -1) || decide (4611686018427387904 < v)) := by
    rw [wideV, Bool.eq_iff_iff]
    simp only [Bool.not_eq_true', Bool.and_eq_false_iff, decide_eq_false_iff_not, Bool.or_eq_true, decide_eq_true_eq]
    omega
  rw [e]
  simp [N12_law47_SizingChecks_3_1]
  refine brB_of (fun h => ?_) (fun h => ?_) <;> simp at h <;> simp [h]
  intro _; omega
theorem rwideR_c (x : SlI) (hl : x.l.length < 2 ^ 62) : C 10 [slI x] (.bool (x.l.any wideV)) [] := by
  refine start hC (nf := N10_law47_SizingChecks_3) rfl rfl ?_
  have h := hasInt_c hC (b := x.n) (xs := x.l) (g := 12) (cs := []) wideV hl (fun v _ => rwideV_c hC v)
  simp [N10_law47_SizingChecks_3]
  refine callW_of h (.inl rfl) ?_
  simp
set_option maxRecDepth 4000 in
set_option maxHeartbeats 4000000 in
theorem SizingChecks_c (j : Job) (b : Bool) (vals : List SlI) (hll : ∀ x ∈ vals, x.l.length < 2 ^ 62) (hl : vals.length < 2 ^ 62) : C 1 [.agg (jobC j), slx b (vals.map fun x => [slI x])] (.bool true) [] := by
  refine start hC (nf := N1_law47_SizingChecks) rfl rfl ?_
  simp [N1_law47_SizingChecks]
  refine callW_of (awake_c hC) (.inl rfl) ?_
  have hlg := large_c hC j
  have hc := Checked_c hC j b vals hl hll
  have hv := rValid_c hC j
  have a1 := hasSlI_c hC (b := b) (xs := vals) (g := 6) (cs := []) long12 hl (fun x _ => long12_c hC x)
  have a2 := hasSlI_c hC (b := b) (xs := vals) (g := 9) (cs := [.ptr (jobC j)]) (fun x => decide (x.l.length ≠ j.secs.length)) hl (fun x _ => lenNot_c hC j x)
  have a3 := hasSlI_c hC (b := b) (xs := vals) (g := 10) (cs := []) (fun x => x.l.any wideV) hl (fun x hx => rwideR_c hC x (hll x hx))
  have k1 := fun hv hn hr => rChecked_c hC j hv hn b vals hr
  have k2 := fun hv hn hr hg => rSum_c hC j hv hn b vals hr hg
  obtain ⟨q1, e1⟩ : ∃ q1, q1 = vals.any long12 := ⟨_, rfl⟩
  obtain ⟨q2, e2⟩ : ∃ q2, q2 = vals.any fun x => decide (x.l.length ≠ j.secs.length) := ⟨_, rfl⟩
  obtain ⟨q3, e3⟩ : ∃ q3, q3 = vals.any fun x => x.l.any wideV := ⟨_, rfl⟩
  rw [← e1] at a1
  rw [← e2] at a2
  rw [← e3] at a3
  obtain ⟨r, hr⟩ : ∃ r, r = checkedF j vals := ⟨_, rfl⟩
  rw [← hr] at hc
  unfold checkedF at hr
  rw [← e2, ← e3] at hr
  simp [jobC_eq]
  simp [jobC_eq] at hlg hc hv a1 a2 a3 k1 k2
  refine callW_of hlg (.inl rfl) ?_
  cases h1 : largeF j
  case true => simp
  simp
  refine brB_of (fun h2 => ?_) (fun h2 => ?_) <;> simp at h2 <;> simp [h2]
  refine callW_of a1 (.inl rfl) ?_
  cases q1
  case true => simp
  simp
  refine callW_of hc (.inl rfl) ?_
  simp
  refine callW_of hv (.inl rfl) ?_
  have hn : j.below.l.length ≤ 12 := by
    simp only [largeF, Bool.or_eq_false_iff, decide_eq_false_iff_not] at h1
    omega
  cases hvj : jobValid j
  · rw [if_pos hvj] at hr
    rw [hr]
    simp
  rw [if_neg (by rw [hvj]; simp)] at hr
  simp
  by_cases h3 : vals.length = j.below.l.length
  case neg =>
    rw [if_pos (.inl h3)] at hr
    rw [hr]
    have h3' : ¬ (vals.length : Int) = (j.below.l.length : Int) := by omega
    simp [h3']
  have h3' : (vals.length : Int) = (j.below.l.length : Int) := by omega
  simp [h3']
  refine callW_of a2 (.inl rfl) ?_
  cases q2
  case true =>
    rw [if_pos (.inr rfl)] at hr
    rw [hr]
    simp
  rw [if_neg (by rintro (h | h); exact h h3; cases h)] at hr
  simp
  refine callW_of a3 (.inl rfl) ?_
  cases q3
  case true =>
    rw [if_pos rfl] at hr
    rw [hr]
    simp
  rw [if_neg (by simp)] at hr
  simp
  have hR : RowsOk j vals := by
    refine ⟨h3, fun a ha => ?_, fun a ha y hy => ?_⟩
    · have := List.any_eq_false.1 e2.symm vals[a]! (by rw [getElem!_pos vals a (by omega)]; exact List.getElem_mem _)
      simpa using this
    · have := List.any_eq_false.1 e3.symm vals[a]! (by rw [getElem!_pos vals a (by omega)]; exact List.getElem_mem _)
      rw [Bool.not_eq_true, List.any_eq_false] at this
      have := this y hy
      simp [wideV] at this
      omega
  refine callW_of (k1 hvj hn hR) (.inl rfl) ?_
  cases hf : (List.range j.below.l.length).find? (badP j vals) with
  | some k =>
    rw [hf] at hr
    have hrc : refChk j vals = (k : Int) := by rw [refChk, hf]
    rw [hr, hrc]
    simp
  | none =>
    rw [hf] at hr
    have hrc : refChk j vals = -1 := by rw [refChk, hf]
    rw [hr, hrc]
    simp
    rw [List.find?_eq_none] at hf
    refine callW_of (k2 hvj hn hR (fun k hk => by simpa using hf k (by simpa using hk))) (.inl rfl) ?_
    simp
end Go.Gv
