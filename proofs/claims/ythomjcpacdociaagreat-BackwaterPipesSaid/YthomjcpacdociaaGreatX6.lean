/-
  Texts of the proof: B5, K11, K12, B6, M0, W1, W2, W3, W4, W5, B7, B8, B9, B10a, M3, M4, M5, M1, M2a, P1, P2, P3, P4, P5, P6, P7, P8.
-/
import Derived.Test.YthomjcpacdociaaGreatX5
set_option linter.all false
set_option linter.unusedSimpArgs false
namespace Go.Gv
def nodAt (ns : List Nod) (i : Nat) : Bool := nodOk ns[i]! && decide (idxD (nodIs ns[i]!.name) ns = (i : Int))
def fromOk (ns : List Nod) (nm : List UInt8) : Bool := decide (0 ≤ idxD (nodIs nm) ns) && !decide (ns[(idxD (nodIs nm) ns).toNat]!.kind = 3)
def lnkAt (ns : List Nod) (ls : List Lnk) (i : Nat) : Bool := linkOk ls[i]! && decide (idxD (lnkIs ls[i]!.name) ls = (i : Int)) && fromOk ns ls[i]!.src && decide (0 ≤ idxD (nodIs ls[i]!.dst) ns)
def netOk (ns : List Nod) (ls : List Lnk) : Bool := decide (ns.length ≤ 300) && decide (ls.length ≤ 400) && (List.range ns.length).all (nodAt ns) && (List.range ls.length).all (lnkAt ns ls)
theorem idxD_lt {α : Type} {p : α → Bool} {xs : List α} (h : 0 ≤ idxD p xs) : (idxD p xs).toNat < xs.length := by
  unfold idxD at h ⊢
  cases e : xs.findIdx? p with
  | none => rw [e] at h; simp at h
  | some i =>
    simp
    obtain ⟨h1, _⟩ := List.findIdx?_eq_some_iff_getElem.1 e
    exact h1
variable {C : CC} (hC : Closed prog C)
include hC
theorem netOk_c (b1 b2 : Bool) (ns : List Nod) (ls : List Lnk) (hcv : ∀ l ∈ ls, l.curve.length < 2 ^ 62) : C 164 [.agg [slx b1 (ns.map nodC), slx b2 (ls.map lnkC)]] (.bool (netOk ns ls)) [] := by
  obtain ⟨r, hr⟩ : ∃ r, r = netOk ns ls := ⟨_, rfl⟩
  rw [← hr]
  unfold netOk at hr
  refine start hC (nf := N164_network_Valid) rfl rfl ?_
  simp [N164_network_Valid]
  refine brB_of (fun c => ?_) (fun c => ?_) <;> simp at c <;> simp [c]
  · simp [hr, show ¬ ns.length ≤ 300 by omega]
  refine brB_of (fun c2 => ?_) (fun c2 => ?_) <;> simp at c2 <;> simp [c2]
  · simp [hr, show ¬ ls.length ≤ 400 by omega]
  rw [decide_eq_true (show ns.length ≤ 300 by omega), decide_eq_true (show ls.length ≤ 400 by omega)] at hr
  simp only [Bool.true_and] at hr
  have badN : ∀ i, i < ns.length → nodAt ns i = false → r = false := fun i hi h => by
    rw [hr, Bool.and_eq_false_iff]
    exact .inl (List.all_eq_false.2 ⟨i, by simpa using hi, by simp [h]⟩)
  have badL : ∀ i, i < ls.length → lnkAt ns ls i = false → r = false := fun i hi h => by
    rw [hr, Bool.and_eq_false_iff]
    exact .inr (List.all_eq_false.2 ⟨i, by simpa using hi, by simp [h]⟩)
  refine loop_of Nat (fun i => [(1, .ptr [slx b1 (ns.map nodC), slx b2 (ls.map lnkC)]), (19, slx b1 (ns.map nodC)), (20, .int .i64 ns.length), (21, .int .i64 i)]) (fun i => i ≤ ns.length ∧ ∀ j < i, nodAt ns j = true) (fun i => ns.length - i) 0 (by simp) (by simp) ?_
  rintro i ⟨hi, hj⟩
  simp
  refine brB_of (fun h => ?_) (fun h => ?_) <;> simp at h <;> simp [h]
  · have hw : IntKind.wrap .i64 ((i : Int) + 1) = ((i + 1 : Nat) : Int) := wrap_i64 (by omega) (by omega)
    have bad := badN i h
    have e1 : ns[i]! = ns[i] := getElem!_pos ns i h
    simp only [nodAt, e1] at bad
    have k1 := nodOk_c hC ns[i]
    have k2 := node_c hC b1 b2 ns ls ns[i].name (by omega)
    simp only [nodC] at k1
    simp [nodC, h]
    refine callW_of k1 (.inl rfl) ?_
    cases g1 : nodOk ns[i]
    · simp
      exact bad (by simp [g1])
    simp
    refine callW_of k2 (.inl rfl) ?_
    simp
    refine brB_of (fun g2 => ?_) (fun g2 => ?_) <;> simp at g2 <;> simp [g2]
    · exact bad (by simp [g2])
    · simp [hw]
      refine ⟨i + 1, ⟨by omega, fun k hk => ?_⟩, by omega, by simp⟩
      rcases Nat.lt_succ_iff_lt_or_eq.1 hk with h5 | rfl
      · exact hj k h5
      · simp [nodAt, e1, g1, g2]
  have hall : (List.range ns.length).all (nodAt ns) = true := by
    rw [List.all_eq_true]
    intro k hk
    exact hj k (by simp at hk; omega)
  rw [hall, Bool.true_and] at hr
  clear badN hall hj
  refine loop_of Nat (fun i => [(1, .ptr [slx b1 (ns.map nodC), slx b2 (ls.map lnkC)]), (39, slx b2 (ls.map lnkC)), (40, .int .i64 ls.length), (41, .int .i64 i)]) (fun i => i ≤ ls.length ∧ ∀ j < i, lnkAt ns ls j = true) (fun i => ls.length - i) 0 (by simp) (by simp) ?_
  clear h hi i
  rintro i ⟨hi, hj⟩
  simp
  refine brB_of (fun h => ?_) (fun h => ?_) <;> simp at h <;> simp [h]
  · have hw : IntKind.wrap .i64 ((i : Int) + 1) = ((i + 1 : Nat) : Int) := wrap_i64 (by omega) (by omega)
    have bad := badL i h
    have e1 : ls[i]! = ls[i] := getElem!_pos ls i h
    simp only [lnkAt, e1] at bad
    have k1 := linkOk_c hC ls[i] (hcv _ (List.getElem_mem h))
    have k2 := link_c hC b1 b2 ns ls ls[i].name (by omega)
    have k3 := node_c hC b1 b2 ns ls ls[i].src (by omega)
    have k4 := node_c hC b1 b2 ns ls ls[i].dst (by omega)
    have next : lnkAt ns ls i = true → ∃ s' : Nat, (s' ≤ ls.length ∧ ∀ j < s', lnkAt ns ls j = true) ∧ ls.length - s' < ls.length - i ∧ (i : Int) + 1 = s' := fun hl => by
      refine ⟨i + 1, ⟨by omega, fun k hk => ?_⟩, by omega, by simp⟩
      rcases Nat.lt_succ_iff_lt_or_eq.1 hk with h5 | rfl
      · exact hj k h5
      · exact hl
    simp only [lnkAt, e1] at next
    simp only [lnkC] at k1
    simp [lnkC, h]
    refine callW_of k1 (.inl rfl) ?_
    cases g1 : linkOk ls[i]
    · simp
      exact bad (by simp [g1])
    simp
    refine callW_of k2 (.inl rfl) ?_
    simp
    refine brB_of (fun g2 => ?_) (fun g2 => ?_) <;> simp at g2 <;> simp [g2]
    · exact bad (by simp [g2])
    refine callW_of k3 (.inl rfl) ?_
    simp
    refine brB_of (fun g3 => ?_) (fun g3 => ?_) <;> simp at g3 <;> simp [g3]
    · exact bad (by simp [fromOk, show ¬ 0 ≤ idxD (nodIs ls[i].src) ns by omega])
    have g3' : ¬ idxD (nodIs ls[i].src) ns < 0 := by omega
    refine callW_of k4 (.inl rfl) ?_
    simp
    refine brB_of (fun g4 => ?_) (fun g4 => ?_) <;> simp at g4 <;> simp [g4]
    · exact bad (by simp [show ¬ 0 ≤ idxD (nodIs ls[i].dst) ns by omega])
    have g4' : ¬ idxD (nodIs ls[i].dst) ns < 0 := by omega
    have hf := idxD_lt g3
    obtain ⟨f, hfe⟩ := Int.eq_ofNat_of_zero_le g3
    rw [hfe] at hf ⊢
    simp at hf
    have e2 : ns[f]! = ns[f] := getElem!_pos ns f hf
    have hfo : fromOk ns ls[i].src = !decide (ns[f].kind = 3) := by
      simp [fromOk, hfe, e2]
    simp [hf, nodC]
    refine brB_of (fun g5 => ?_) (fun g5 => ?_) <;> simp at g5 <;> simp [g5]
    · exact bad (by simp [hfo, g5])
    · simp [hw]
      exact next (by simp [hfo, g5, g1, g2, g4])
  · have hall : (List.range ls.length).all (lnkAt ns ls) = true := by
      rw [List.all_eq_true]
      intro k hk
      exact hj k (by simp at hk; omega)
    rw [hr, hall]
end Go.Gv

set_option linter.unusedSimpArgs false
namespace Go.Gv

theorem conv_last {s : Sec} (h : secValid s = true) : tableValid s.conv = true ∧ (lastK s.conv).1 = s.height ∧ 0 ≤ (lastK s.conv).2 ∧ (lastK s.conv).2 ≤ 1099511627776 := by
  simp only [secValid, curveOk, Bool.and_eq_true, decide_eq_true_eq, beq_iff_eq] at h
  obtain ⟨_, ⟨⟨hv, h0⟩, h1⟩, h2⟩ := h
  obtain ⟨l1, l2⟩ := valid_len hv
  have hp : ∀ i (hi : i < s.conv.length), 0 ≤ s.conv[i].2 := by
    intro i
    induction i with
    | zero => intro hi; have := h0.2; rw [getElem!_pos s.conv 0 hi] at this; omega
    | succ i ih =>
      intro hi
      have h3 := ((valid_ok hv hi).2.2 i rfl).2
      have := ih (by omega)
      omega
  obtain ⟨n, hn⟩ : ∃ n, n + 1 = s.conv.length := ⟨s.conv.length - 1, by omega⟩
  refine ⟨hv, h1, ?_, h2⟩
  rw [lastK_get hn]
  exact hp n (by omega)
theorem cap_lt {k f : Nat} (hk : k ≤ 1099511627776) (hf : f ≤ 4194304) : k * k * f ≤ 5070602400912917605986812821504 := by
  have h1 := Nat.mul_le_mul hk hk
  have h2 := Nat.mul_le_mul h1 hf
  exact h2

variable {C : CC} (hC : Closed prog C)
include hC
theorem carried_c (s : Sec) (fall len : Int) (hv : secValid s = true) (hs : slopeOk fall len = true) : C 61 [.agg (secC s), .int .i64 s.height, .int .i64 fall, .int .i64 len] (.tup [.int .i64 (capN s fall len), .int .i64 0]) [] := by
  obtain ⟨c1, c2, c3, c4⟩ := conv_last hv
  simp only [slopeOk, Bool.and_eq_true, decide_eq_true_eq] at hs
  obtain ⟨l1, l2⟩ := valid_len c1
  obtain ⟨n, hn⟩ : ∃ n, n + 1 = s.conv.length := ⟨s.conv.length - 1, by omega⟩
  rw [lastK_get hn] at c2 c3 c4
  have hF := Floor_c hC s.convN s.conv s.height c1 n hn c2
  obtain ⟨k, hk⟩ : ∃ k : Nat, s.conv[n].2 = k := ⟨s.conv[n].2.toNat, by omega⟩
  obtain ⟨f, rfl⟩ : ∃ f : Nat, fall = f := ⟨fall.toNat, by omega⟩
  obtain ⟨l, rfl⟩ : ∃ l : Nat, len = l := ⟨len.toNat, by omega⟩
  have hcap : capN s f l = rootN (k * k * f / l) := by simp [capN, lastK_get hn, hk]
  rw [hk] at hF
  rw [hcap]
  have hb := cap_lt (k := k) (f := f) (by omega) (by omega)
  have hb0 : k * k ≤ 1208925819614629174706176 := Nat.mul_le_mul (show k ≤ 1099511627776 by omega) (show k ≤ 1099511627776 by omega)
  have hb2 := Nat.div_le_self (k * k * f) l
  refine start hC (nf := N61_catalogue_carried) rfl rfl ?_
  simp [N61_catalogue_carried, secC]
  refine callW_of hF (.inl rfl) ?_
  simp
  refine callW_of (product_c hC k k (by omega) (by omega)) (.inl rfl) ?_
  have v : ∀ x, isV (wideD x) = true ∧ (∀ f : Nat → D, dpOk f (wideD x)) ∧ (∀ f : Nat → D, dp f (wideD x) = wideD x) ∧ ∀ ks, kill1 ks (wideD x) = wideD x := fun x => ⟨rfl, fun _ => trivial, fun _ => rfl, fun _ => by simp [wideD]⟩
  simp [v]
  refine callW_of (times_c hC (k * k) f (by omega) (by omega) (by omega)) (.inl rfl) ?_
  simp [v]
  refine callW_of (over_c hC (k * k * f) l (by omega) (by omega) (by omega)) (.inl rfl) ?_
  simp [v]
  refine callW_of (root_c hC (k * k * f / l)) (.inl rfl) ?_
  simp
theorem Full_c (s : Sec) (fall len : Int) : C 47 [.agg (secC s), .int .i64 fall, .int .i64 len] (.tup [.int .i64 (fullF s fall len).1, .int .i64 (fullF s fall len).2]) [] := by
  have cap : C 53 [.agg (secC s), .int .i64 s.height, .int .i64 fall, .int .i64 len] (.tup [.int .i64 (fullF s fall len).1, .int .i64 (fullF s fall len).2]) [] := by
    refine start hC (nf := N53_catalogue_Capacity) rfl rfl ?_
    simp [N53_catalogue_Capacity, secC]
    have hvc := valid_c hC s
    rw [secC] at hvc
    refine callW_of hvc (.inl rfl) ?_
    cases hv : secValid s
    · simp [fullF, hv]
    have hh : ¬ s.height < 0 := by
      simp only [secValid, Bool.and_eq_true, decide_eq_true_eq] at hv
      omega
    simp [hh]
    refine callW_of (slope_c hC fall len) (.inl rfl) ?_
    have es : (decide (0 ≤ fall) && decide (fall ≤ 4194304) && decide (1 ≤ len) && decide (len ≤ 16777216)) = slopeOk fall len := rfl
    rw [es]
    cases hs : slopeOk fall len
    · simp [fullF, hv, hs]
    simp
    have hcc := carried_c hC s fall len hv hs
    rw [secC] at hcc
    refine callW_of hcc (.inl rfl) ?_
    simp
    refine brB_of (fun c => ?_) (fun c => ?_) <;> simp [c] <;> simp at c
    · have c' : 1099511627776 < capN s fall len := by omega
      simp [fullF, hv, hs, c']
    · have c' : ¬ 1099511627776 < capN s fall len := by omega
      simp [fullF, hv, hs, c']
  refine start hC (nf := N47_catalogue_Full) rfl rfl ?_
  simp [N47_catalogue_Full, secC]
  rw [secC] at cap
  refine callW_of cap (.inl rfl) ?_
  simp
end Go.Gv

set_option linter.unusedSimpArgs false
namespace Go.Gv

def catValid (l : List Sec) : Bool := decide (l.length ≤ 40) && l.all secValid && decide ((l.map (·.name)).Nodup)
def namesK (l : List Sec) : List D := ((l.map (·.name)).reverse).map D.str

theorem mpGet_set : ∀ (xs : List (List UInt8)) (n : Nat), n = xs.length → ∀ s, (mpGet (xs.map D.str) (List.replicate n (.bool true)) (.str s)).getD (.bool false) = .bool (decide (s ∈ xs))
  | [], n, h, s => by simp [mpGet]
  | x :: xs, n, h, s => by
    obtain ⟨m, rfl⟩ : ∃ m, n = m + 1 := ⟨n - 1, by simp at h; omega⟩
    have ih := mpGet_set xs m (by simpa using h) s
    simp only [List.map_cons, List.replicate_succ, mpGet, eqD, eqD1, decide_eq_true_eq]
    by_cases e : s = x
    · subst e; simp
    · rw [if_neg e, ih]; simp [e]

variable {C : CC} (hC : Closed prog C)
include hC
theorem catValid_c (b : Bool) (l : List Sec) : C 44 [slx b (l.map secC)] (.bool (catValid l)) [] := by
  refine start hC (nf := N44_catalogue_Valid) rfl rfl ?_
  simp [N44_catalogue_Valid]
  refine brB_of (fun h => ?_) (fun h => ?_) <;> simp at h
  · simp [catValid]; omega
  simp
  refine loop_of Nat (fun i => [(3, .mrf 10144), (10144, .mp 0 1 (namesK (l.take i)) (List.replicate i (.bool true))), (10, slx b (l.map secC)), (11, .int .i64 l.length), (12, .int .i64 i)])
    (fun i => i ≤ l.length ∧ (∀ x ∈ l.take i, secValid x = true) ∧ ((l.map (·.name)).take i).Nodup) (fun i => l.length - i) 0 (by simp) (by simp [namesK]) ?_
  rintro i ⟨hi, hv, hn⟩
  simp
  refine brB_of (fun h3 => ?_) (fun h3 => ?_) <;> simp at h3
  · have ht : l.take (i + 1) = l.take i ++ [l[i]] := List.take_succ_eq_append_getElem h3
    have hg := mpGet_set ((l.take i).map (·.name)).reverse i (by simp; omega) l[i].name
    rw [show ((l.take i).map (·.name)).reverse.map D.str = namesK (l.take i) from rfl] at hg
    have hk : D.str l[i].name :: namesK (l.take i) = namesK (l.take (i + 1)) := by
      rw [namesK, namesK, ht]
      simp only [List.map_append, List.map_cons, List.map_nil, List.reverse_append, List.reverse_cons, List.reverse_nil, List.nil_append, List.cons_append]
    have hlen : (namesK (l.take i)).length < maxLen := by
      have : (namesK (l.take i)).length ≤ 40 := by simp [namesK]; omega
      unfold maxLen; omega
    have hw : IntKind.wrap .i64 ((i : Int) + 1) = ((i + 1 : Nat) : Int) := wrap_i64 (by omega) (by omega)
    have bad1 : secValid l[i] = false → catValid l = false := fun e => by
      simp only [catValid, Bool.and_eq_false_iff, List.all_eq_false]
      exact .inl (.inr ⟨l[i], List.getElem_mem h3, by simp [e]⟩)
    have h5 : (l.map (·.name)).take (i + 1) = (l.map (·.name)).take i ++ [l[i].name] := by
      rw [List.take_succ_eq_append_getElem (by simpa using h3)]; simp
    have bad2 : l[i].name ∈ (l.map (·.name)).take i → catValid l = false := fun e => by
      simp only [catValid, Bool.and_eq_false_iff, decide_eq_false_iff_not]
      right
      intro hnd
      have h6 := (List.take_sublist (i + 1) _).nodup hnd
      rw [h5, List.nodup_append] at h6
      exact h6.2.2 _ e _ (by simp) rfl
    simp [h3, secC]
    have hvc := valid_c hC l[i]
    rw [secC] at hvc
    refine callW_of hvc (.inl rfl) ?_
    cases hvi : secValid l[i]
    · simp [bad1 hvi]
    · have hnm : l[i].name.length ≤ maxLen := by
        simp only [secValid, isName, Bool.and_eq_true, decide_eq_true_eq] at hvi
        unfold maxLen; omega
      simp [hg, hnm]
      refine brB_of (fun h4 => ?_) (fun h4 => ?_) <;> simp [h4] <;> simp at h4
      · exact bad2 h4
      · simp [hlen, hnm, hw]
        refine ⟨i + 1, ⟨by omega, ?_, ?_⟩, by omega, ⟨hk, ?_⟩, rfl⟩
        · intro x hx
          rw [ht] at hx
          rcases List.mem_append.1 hx with hx | hx
          · exact hv x hx
          · simp at hx; subst hx; exact hvi
        · rw [h5, List.nodup_append]
          refine ⟨hn, by simp, fun a ha b hb => ?_⟩
          simp at hb
          subst hb
          rintro rfl
          exact h4 ha
        · rw [List.replicate_succ]
  · have hil : i = l.length := by omega
    subst hil
    rw [List.take_of_length_le (by simp)] at hn
    simp at hv
    simp [catValid, hn]
    exact ⟨by omega, hv⟩
end Go.Gv

set_option linter.unusedSimpArgs false
namespace Go.Gv
def nodA (nm : List UInt8) : Nod := { name := nm, kind := 1, x := 0, y := 0, invert := 0, ground := 1, shapeN := false, shape := [(0, 0), (1, 1)], prot := false, reserve := 0 }
def nodB (nm : List UInt8) : Nod := { name := nm, kind := 3, x := 0, y := 0, invert := 0, ground := 0, shapeN := true, shape := [], prot := false, reserve := 0 }
theorem idxD_cons_yes {α : Type} {p : α → Bool} {x : α} {l : List α} (h : p x = true) : idxD p (x :: l) = 0 := by
  unfold idxD
  rw [List.findIdx?_cons, h]
  rfl
theorem idxD_two {α : Type} {p : α → Bool} {x y : α} (h : p x = false) (h2 : p y = true) : idxD p [x, y] = 1 := by
  unfold idxD
  rw [List.findIdx?_cons, h, List.findIdx?_cons, h2]
  rfl
theorem netOk_pipe (l : Lnk) : netOk [nodA l.src, nodB l.dst] [l] = linkOk l := by
  cases h : linkOk l
  · simp [netOk, lnkAt, h]
  have h' := h
  simp only [linkOk, Bool.and_eq_true, Bool.not_eq_true', decide_eq_false_iff_not] at h
  obtain ⟨⟨⟨⟨⟨⟨h1, h2⟩, h3⟩, h4⟩, h5⟩, h6⟩, h7⟩ := h
  have a1 : nodOk (nodA l.src) = true := by
    have : curveOk [(0, 0), (1, 1)] 1 1125899906842624 = true := by decide +kernel
    simp [nodOk, nodA, h2, storeOk, lowHigh, lvlOk, this]
  have a2 : nodOk (nodB l.dst) = true := by
    simp [nodOk, nodB, h3, outOk, lowHigh, lvlOk]
  have b1 : nodIs l.src (nodA l.src) = true := by simp [nodIs, nodA]
  have b2 : nodIs l.dst (nodB l.dst) = true := by simp [nodIs, nodB]
  have b3 : nodIs l.dst (nodA l.src) = false := by simp [nodIs, nodA, h4]
  have c1 : idxD (nodIs l.src) [nodA l.src, nodB l.dst] = 0 := idxD_cons_yes b1
  have c2 : idxD (nodIs l.dst) [nodA l.src, nodB l.dst] = 1 := idxD_two b3 b2
  have c3 : idxD (lnkIs l.name) [l] = 0 := idxD_cons_yes (by simp [lnkIs])
  have d1 : (nodA l.src).name = l.src := rfl
  have d2 : (nodB l.dst).name = l.dst := rfl
  have d3 : (nodA l.src).kind = 1 := rfl
  have e1 : (List.range 2).all (nodAt [nodA l.src, nodB l.dst]) = true := by
    simp [List.range_succ, nodAt, a1, a2, c1, c2, d1, d2]
  have e2 : (List.range 1).all (lnkAt [nodA l.src, nodB l.dst] [l]) = true := by
    simp [List.range_succ, lnkAt, h', c1, c2, c3, fromOk, d3]
  have e3 : lnkAt [nodA l.src, nodB l.dst] [l] 0 = true := by simpa using e2
  simp [netOk, e1, e3]
theorem catValid_one (s : Sec) : catValid [s] = secValid s := by
  simp [catValid]
def pipeE (l : Lnk) (s : Sec) : Int := if linkOk l && secValid s then (if l.kind = 1 then (if l.sect = s.name then 0 else 25) else 11) else 1
variable {C : CC} (hC : Closed prog C)
include hC
theorem withinB_c (n a b : Int) : C 161 [.int .i64 n, .int .i64 a, .int .i64 b] (.bool (lowHigh n a b)) [] := by
  refine start hC (nf := N161_backwater_within) rfl rfl ?_
  simp [N161_backwater_within, lowHigh]
  refine brB_of (fun h => ?_) (fun h => ?_) <;> simp at h <;> simp [h] <;> omega
theorem pipe_c (l : Lnk) (s : Sec) (hl : l.curve.length < 2 ^ 62) : C 160 [.agg (lnkC l), .agg (secC s)] (.int .i64 (pipeE l s)) [] := by
  have k1 := netOk_c hC false false [nodA l.src, nodB l.dst] [l] (by simpa using hl)
  rw [netOk_pipe] at k1
  have k2 := catValid_c hC false [s]
  rw [catValid_one] at k2
  simp only [slx_false, List.map, nodA, nodB, nodC, lnkC, secC, knD] at k1 k2
  obtain ⟨r, hr⟩ : ∃ r, r = pipeE l s := ⟨_, rfl⟩
  rw [← hr]
  unfold pipeE at hr
  refine start hC (nf := N160_backwater_pipe) rfl rfl ?_
  have e0 : slx true [] = D.nils := rfl
  rw [e0] at k1
  simp [N160_backwater_pipe, lnkC, secC]
  refine callW_of k1 (.inl rfl) ?_
  cases h1 : linkOk l
  · simp [hr, h1]
  simp
  refine callW_of k2 (.inl rfl) ?_
  cases h2 : secValid s
  · simp [hr, h2]
  simp
  refine brB_of (fun c => ?_) (fun c => ?_) <;> simp at c <;> simp [c]
  · simp [hr, h1, h2, c]
  refine brB_of (fun c3 => ?_) (fun c3 => ?_) <;> simp at c3 <;> simp [c3]
  · simp [hr, h1, h2, c, c3]
  · simp [hr, h1, h2, c, c3]
end Go.Gv

set_option linter.unusedSimpArgs false
namespace Go.Gv
open Go.Lib

theorem shlN (a k m : Nat) (hm : m = a * 2 ^ k % 18446744073709551616) : IntKind.u64.wrap ((a : Int) * 2 ^ k) = (m : Int) := by
  have e : (a : Int) * 2 ^ k = ((a * 2 ^ k : Nat) : Int) := by push_cast; rfl
  rw [e, wrapM, hm]
theorem shl1 (a m : Nat) (hm : m = a * 2 % 18446744073709551616) : IntKind.u64.wrap ((a : Int) * 2 ^ min 1 IntKind.u64.bits) = (m : Int) := shlN a 1 m hm
theorem shl32 (a m : Nat) (hm : m = a * 4294967296 % 18446744073709551616) : IntKind.u64.wrap ((a : Int) * 2 ^ min 32 IntKind.u64.bits) = (m : Int) := shlN a 32 m hm
theorem shr63 (a : Nat) : Int.fdiv (a : Int) (2 ^ min 63 IntKind.u64.bits) = ((a / 9223372036854775808 : Nat) : Int) := shrN a 63
theorem uw {n : Int} {m : Nat} (h : n = m ∨ n = m + 18446744073709551616 ∨ n = m - 18446744073709551616) (hm : m < 18446744073709551616) : IntKind.u64.wrap n = (m : Int) := by
  rw [wrapU]; omega

end Go.Gv

set_option linter.unusedSimpArgs false
namespace Go.Gv
open Go.Lib

theorem shl4 (a m : Nat) (hm : m = a * 16 % 18446744073709551616) : IntKind.u64.wrap ((a : Int) * 2 ^ min 4 IntKind.u64.bits) = (m : Int) := shlN a 4 m hm
theorem shl60 (a m : Nat) (hm : m = a * 1152921504606846976 % 18446744073709551616) : IntKind.u64.wrap ((a : Int) * 2 ^ min 60 IntKind.u64.bits) = (m : Int) := shlN a 60 m hm
theorem shr60 (a : Nat) : Int.fdiv (a : Int) (2 ^ min 60 IntKind.u64.bits) = ((a / 1152921504606846976 : Nat) : Int) := shrN a 60
theorem shr4 (a : Nat) : Int.fdiv (a : Int) (2 ^ min 4 IntKind.u64.bits) = ((a / 16 : Nat) : Int) := shrN a 4
theorem mask60 (a : Nat) (ha : a < 18446744073709551616) : bits .and .u64 (a : Int) 1152921504606846975 = ((a % 1152921504606846976 : Nat) : Int) := by
  have h := bits_and_u64_nat a 1152921504606846975 ha (by omega)
  have e : a &&& 1152921504606846975 = a % 1152921504606846976 := Nat.and_two_pow_sub_one_eq_mod a 60
  rw [e] at h
  exact h
theorem or16 (a b : Nat) (hb : b < 16) (h : a * 16 + b < 18446744073709551616) : bits .or .u64 ((a * 16 : Nat) : Int) (b : Int) = ((a * 16 + b : Nat) : Int) := orN a b 4 hb h
theorem or60 (a b : Nat) (hb : b < 1152921504606846976) (h : a * 1152921504606846976 + b < 18446744073709551616) : bits .or .u64 ((a * 1152921504606846976 : Nat) : Int) (b : Int) = ((a * 1152921504606846976 + b : Nat) : Int) := orN a b 60 hb h
/-- A number that is not negative, in two parts of 64 bits. -/
def numD (p : Nat) (neg : Bool) : D := .agg [.int .u64 ((p / 18446744073709551616 : Nat) : Int), .int .u64 ((p % 18446744073709551616 : Nat) : Int), .bool neg]
/-- A wide integer that is not negative. -/
def wiD (p : Nat) : D := .agg [.int .i64 ((p / 1152921504606846976 : Nat) : Int), .int .i64 ((p % 1152921504606846976 : Nat) : Int)]

variable {C : CC} (hC : Closed prog C)
include hC
theorem wsize_c (n : Nat) (h : n < 9223372036854775808) : C 112 [.int .i64 n] (.int .u64 (n : Int)) [] := by
  refine start hC (nf := N112_wide_size) rfl rfl ?_
  have h0 : ¬ (n : Int) < 0 := by omega
  simp [N112_wide_size, h0, wrapN n (by omega)]
theorem signed_c (a b : Int) (n : Bool) : C 113 [.int .u64 a, .int .u64 b, .bool n] (.agg [.int .u64 a, .int .u64 b, .bool (n && (!decide (a = 0) || !decide (b = 0)))]) [] := by
  refine start hC (nf := N113_wide_signed) rfl rfl ?_
  simp [N113_wide_signed]
  cases n <;> simp
  by_cases h : a = 0 <;> simp [h]
theorem wtimes_c (x y : Nat) (hx : x < 9223372036854775808) (hy : y < 9223372036854775808) : C 103 [.int .i64 x, .int .i64 y] (numD (x * y) false) [] := by
  refine start hC (nf := N103_wide_times) rfl rfl ?_
  have h0 : ¬ (x : Int) < 0 := by omega
  have h1 : ¬ (y : Int) < 0 := by omega
  have hm := Mul64_c hC x y (by omega) (by omega)
  rw [numD]
  obtain ⟨zh, hzh⟩ : ∃ zh, zh = x * y / 18446744073709551616 := ⟨_, rfl⟩
  obtain ⟨zl, hzl⟩ : ∃ zl, zl = x * y % 18446744073709551616 := ⟨_, rfl⟩
  rw [← hzh, ← hzl] at hm ⊢
  simp [N103_wide_times]
  refine callW_of (wsize_c hC x hx) (.inl rfl) ?_
  simp
  refine callW_of (wsize_c hC y hy) (.inl rfl) ?_
  simp
  refine callW_of hm (.inl rfl) ?_
  simp [h0, h1]
  refine callW_of (signed_c hC zh zl false) (.inl rfl) ?_
  simp
theorem whole_c (n : Nat) (h : n < 9223372036854775808) : C 110 [.int .u64 n, .bool false] (.tup [.int .i64 n, .int .i64 0]) [] := by
  refine start hC (nf := N110_wide_whole) rfl rfl ?_
  have h1 : (n : Int) ≤ 9223372036854775807 := by omega
  have h2 : IntKind.i64.wrap (n : Int) = (n : Int) := wrap_i64 rfl (by omega)
  simp [N110_wide_whole, h1, h2]
theorem quotient_c (p d : Nat) (up : Bool) (q : Nat) (hd : d < 9223372036854775808) (hp : p / 18446744073709551616 < d) (hq : q < 9223372036854775808) (hv : q = if up then (p + d - 1) / d else p / d) (hqd : p / d + 1 < 9223372036854775808) : C 104 [numD p false, .int .i64 d, .bool up] (.tup [.int .i64 q, .int .i64 0]) [] := by
  obtain ⟨ph, hph⟩ : ∃ z, z = p / 18446744073709551616 := ⟨_, rfl⟩
  obtain ⟨pl, hpl⟩ : ∃ z, z = p % 18446744073709551616 := ⟨_, rfl⟩
  have hpp : ph * 18446744073709551616 + pl = p := by omega
  obtain ⟨q0, hq0⟩ : ∃ z, z = p / d := ⟨_, rfl⟩
  obtain ⟨r0, hr0⟩ : ∃ z, z = p % d := ⟨_, rfl⟩
  have hdiv := Div64_c hC ph pl d (by omega) (by omega) (by omega)
  rw [hpp, ← hq0, ← hr0] at hdiv
  have hd0 : 0 < d := by omega
  have hdp : d * q0 + r0 = p := by rw [hq0, hr0]; exact Nat.div_add_mod p d
  have hrd : r0 < d := by rw [hr0]; exact Nat.mod_lt _ hd0
  have hup : up = true → q = if 0 < r0 then q0 + 1 else q0 := by
    rintro rfl
    simp only [if_true] at hv
    rw [hv, ← hdp]
    by_cases h : 0 < r0
    · rw [if_pos h, show d * q0 + r0 + d - 1 = d * q0 + (d + (r0 - 1)) by omega, Nat.mul_add_div hd0, Nat.add_div_left _ hd0, Nat.div_eq_of_lt (by omega)]
    · rw [if_neg h, show d * q0 + r0 + d - 1 = d * q0 + (d - 1) by omega, Nat.mul_add_div hd0, Nat.div_eq_of_lt (by omega)]
      rfl
  rw [numD, ← hph, ← hpl]
  have h1 : ¬ (d : Int) ≤ (ph : Int) := by omega
  have h2 : ¬ (d : Int) < 0 := by omega
  have h3 : IntKind.u64.wrap ((q0 : Int) + 1) = ((q0 + 1 : Nat) : Int) := uw (by omega) (by omega)
  refine start hC (nf := N104_wide_quotient) rfl rfl ?_
  simp [N104_wide_quotient]
  refine callW_of (wsize_c hC d hd) (.inl rfl) ?_
  simp [h1]
  refine callW_of hdiv (.inl rfl) ?_
  simp [h2]
  cases up
  · have e : q = q0 := by rw [hv, hq0]; rfl
    subst e
    refine brB_of (fun h => ?_) (fun h => ?_) <;> simp at h <;> simp [h]
    · refine callW_of (whole_c hC q hq) (.inl rfl) ?_
      simp
    · refine callW_of (whole_c hC q hq) (.inl rfl) ?_
      simp
  · have hv := hup rfl
    by_cases h : 0 < r0
    · have hi : (0 : Int) < r0 := by omega
      rw [if_pos h] at hv
      subst hv
      have h4 : ¬ ((q0 : Int) + 1 = 0) := by omega
      simp [hi, h3, h4, h]
      refine callW_of (whole_c hC (q0 + 1) hq) (.inl rfl) ?_
      simp
    · have hi : ¬ (0 : Int) < r0 := by omega
      rw [if_neg h] at hv
      subst hv
      simp [hi, h]
      refine callW_of (whole_c hC q hq) (.inl rfl) ?_
      simp
end Go.Gv

set_option linter.unusedSimpArgs false
namespace Go.Gv
open Go.Lib

variable {C : CC} (hC : Closed prog C)
include hC
theorem wvalid_c (p : Nat) (h : p < 1329227995784915872903807060280344576) : C 106 [wiD p] (.bool true) [] := by
  obtain ⟨ph, hph⟩ : ∃ z, z = p / 1152921504606846976 := ⟨_, rfl⟩
  obtain ⟨pl, hpl⟩ : ∃ z, z = p % 1152921504606846976 := ⟨_, rfl⟩
  rw [wiD, ← hph, ← hpl]
  have h1 : (-1152921504606846976 : Int) ≤ ph := by omega
  have h2 : (ph : Int) < 1152921504606846976 := by omega
  have h3 : (0 : Int) ≤ pl := by omega
  have h4 : (pl : Int) < 1152921504606846976 := by omega
  refine start hC (nf := N106_wide_Valid) rfl rfl ?_
  simp [N106_wide_Valid, h1, h2, h3, h4]
theorem placed_c (p : Nat) (h : p < 1329227995784915872903807060280344576) : C 105 [numD p false] (.tup [wiD p, .int .i64 0]) [] := by
  obtain ⟨ph, hph⟩ : ∃ z, z = p / 1152921504606846976 := ⟨_, rfl⟩
  obtain ⟨pl, hpl⟩ : ∃ z, z = p % 1152921504606846976 := ⟨_, rfl⟩
  obtain ⟨zh, hzh⟩ : ∃ z, z = p / 18446744073709551616 := ⟨_, rfl⟩
  obtain ⟨zl, hzl⟩ : ∃ z, z = p % 18446744073709551616 := ⟨_, rfl⟩
  rw [wiD, numD, ← hph, ← hpl, ← hzh, ← hzl]
  obtain ⟨zt, hzt⟩ : ∃ z, z = zl / 1152921504606846976 := ⟨_, rfl⟩
  have h1 : ¬ (72057594037927936 : Int) < zh := by omega
  have h2 : ¬ (zh : Int) = 72057594037927936 := by omega
  have e1 := shl4 zh (zh * 16) (by omega)
  have e2 := shr60 zl
  rw [← hzt] at e2
  have e3 := or16 zh zt (by omega) (by omega)
  have e4 : IntKind.i64.wrap ((zh * 16 + zt : Nat) : Int) = (ph : Int) := wrap_i64 (by omega) (by omega)
  have e5 := mask60 zl (by omega)
  have e6 : IntKind.i64.wrap ((zl % 1152921504606846976 : Nat) : Int) = (pl : Int) := wrap_i64 (by omega) (by omega)
  refine start hC (nf := N105_wide_placed) rfl rfl ?_
  simp [N105_wide_placed, h1, h2, e2, -Int.natCast_mul, -Int.natCast_emod]
  refine ⟨indW_of (by decide +kernel), ?_⟩
  rw [e1, e3, e4, e5, e6]
  simp
theorem value_c (p : Nat) (h : p < 1329227995784915872903807060280344576) : C 108 [wiD p] (numD p false) [] := by
  obtain ⟨ph, hph⟩ : ∃ z, z = p / 1152921504606846976 := ⟨_, rfl⟩
  obtain ⟨pl, hpl⟩ : ∃ z, z = p % 1152921504606846976 := ⟨_, rfl⟩
  obtain ⟨zh, hzh⟩ : ∃ z, z = p / 18446744073709551616 := ⟨_, rfl⟩
  obtain ⟨zl, hzl⟩ : ∃ z, z = p % 18446744073709551616 := ⟨_, rfl⟩
  rw [wiD, numD, ← hph, ← hpl, ← hzh, ← hzl]
  have h1 : (0 : Int) ≤ ph := by omega
  obtain ⟨w, hw⟩ : ∃ z, z = ph % 16 := ⟨_, rfl⟩
  have e1 : Int.fdiv (ph : Int) (2 ^ min 4 IntKind.u64.bits) = (zh : Int) := by rw [shr4]; omega
  have e2 : IntKind.u64.wrap ((ph : Int) * 2 ^ min 60 IntKind.u64.bits) = ((w * 1152921504606846976 : Nat) : Int) := shl60 ph _ (by omega)
  have e3 : IntKind.u64.wrap (pl : Int) = (pl : Int) := wrapN pl (by omega)
  have e4 : bits .or .u64 ((w * 1152921504606846976 : Nat) : Int) (pl : Int) = (zl : Int) := by
    rw [or60 w pl (by omega) (by omega)]; omega
  refine start hC (nf := N108_wide_value) rfl rfl ?_
  simp [N108_wide_value]
  refine callW_of (wsize_c hC ph (by omega)) (.inl rfl) ?_
  simp [h1]
  rw [e1, e2, e3, e4]
  simp
theorem minus_c (p : Nat) : C 109 [numD p false] (numD p (decide (p ≠ 0))) [] := by
  obtain ⟨zh, hzh⟩ : ∃ z, z = p / 18446744073709551616 := ⟨_, rfl⟩
  obtain ⟨zl, hzl⟩ : ∃ z, z = p % 18446744073709551616 := ⟨_, rfl⟩
  have e : decide (p ≠ 0) = (true && (!decide ((zh : Int) = 0) || !decide ((zl : Int) = 0))) := by
    rw [Bool.eq_iff_iff]; simp; omega
  rw [numD, numD, ← hzh, ← hzl, e]
  refine start hC (nf := N109_wide_minus) rfl rfl ?_
  simp [N109_wide_minus]
  refine callW_of (signed_c hC zh zl true) (.inl rfl) ?_
  simp
set_option maxHeartbeats 4000000 in
theorem sum_c (p r : Nat) (hr : r ≤ p) (hp : p < 1329227995784915872903807060280344576) : C 107 [numD p false, numD r (decide (r ≠ 0))] (numD (p - r) false) [] := by
  obtain ⟨ph, hph⟩ : ∃ z, z = p / 18446744073709551616 := ⟨_, rfl⟩
  obtain ⟨pl, hpl⟩ : ∃ z, z = p % 18446744073709551616 := ⟨_, rfl⟩
  obtain ⟨rh, hrh⟩ : ∃ z, z = r / 18446744073709551616 := ⟨_, rfl⟩
  obtain ⟨rl, hrl⟩ : ∃ z, z = r % 18446744073709551616 := ⟨_, rfl⟩
  obtain ⟨dh, hdh⟩ : ∃ z, z = (p - r) / 18446744073709551616 := ⟨_, rfl⟩
  obtain ⟨dl, hdl⟩ : ∃ z, z = (p - r) % 18446744073709551616 := ⟨_, rfl⟩
  have k0 : (0 : Int) ≤ ph := by omega
  have k1 : (0 : Int) ≤ pl := by omega
  have k2 : (0 : Int) ≤ rl := by omega
  have k3 : (pl : Int) < 18446744073709551616 := by omega
  have k4 : (rl : Int) < 18446744073709551616 := by omega
  by_cases h0 : r = 0
  · subst h0
    have hrh0 : rh = 0 := by omega
    have hrl0 : rl = 0 := by omega
    subst hrh0 hrl0
    rw [numD, numD, numD, ← hph, ← hpl, ← hrh, ← hrl, ← hdh, ← hdl]
    have e1 : (pl : Int) % 18446744073709551616 = (pl : Int) := by omega
    have e2 : (pl : Int) / 18446744073709551616 = 0 := by omega
    have e3 : IntKind.u64.wrap (ph : Int) = (ph : Int) := wrapN ph (by omega)
    have e4 : dh = ph := by omega
    have e5 : dl = pl := by omega
    refine start hC (nf := N107_wide_sum) rfl rfl ?_
    simp [N107_wide_sum, k3, e1, e2, e3]
    refine callW_of (signed_c hC ph pl false) (.inl rfl) ?_
    simp [e4, e5]
  · have hne : decide (r ≠ 0) = true := by simp [h0]
    rw [hne, numD, numD, numD, ← hph, ← hpl, ← hrh, ← hrl, ← hdh, ← hdl]
    have c1 : ¬ (ph : Int) < rh := by omega
    have c2 : (ph : Int) = rh → ¬ (pl : Int) < rl := by omega
    have e1 : ((pl : Int) - rl) % 18446744073709551616 = (dl : Int) := by omega
    have e2 : IntKind.u64.wrap ((ph : Int) - rh) = ((ph - rh : Nat) : Int) := uw (by omega) (by omega)
    have e3 : IntKind.u64.wrap (((ph - rh : Nat) : Int) - (if pl < rl then 1 else 0)) = (dh : Int) := by
      split <;> exact uw (by omega) (by omega)
    refine start hC (nf := N107_wide_sum) rfl rfl ?_
    simp [N107_wide_sum, c1, k3, k4, e1, e2]
    refine brB_of (fun c => ?_) (fun c => ?_) <;> simp at c <;> simp [c]
    · have c3 := c2 (by omega)
      refine brB_of (fun c4 => ?_) (fun c4 => ?_) <;> simp at c4 <;> simp [c4]
      · omega
      have hd0 : dh = 0 := by omega
      have c5 : ¬ pl < rl := by omega
      have hz : IntKind.u64.wrap 0 = 0 := wrapN 0 (by omega)
      simp [k3, k4, e1, hz, c5]
      refine callW_of (signed_c hC 0 dl false) (.inl rfl) ?_
      simp [hd0]
    · simp [k3, k4, e1, e2]
      rw [e3]
      refine callW_of (signed_c hC dh dl false) (.inl rfl) ?_
      simp
end Go.Gv

set_option linter.unusedSimpArgs false
namespace Go.Gv
theorem numD_ex (p : Nat) : ∃ a b : Int, numD p false = .agg [.int .u64 a, .int .u64 b, .bool false] := ⟨_, _, rfl⟩
theorem numD_ex2 (p : Nat) (n : Bool) : ∃ a b : Int, numD p n = .agg [.int .u64 a, .int .u64 b, .bool n] := ⟨_, _, rfl⟩
theorem wiD_ex (p : Nat) : ∃ a b : Int, wiD p = .agg [.int .i64 a, .int .i64 b] := ⟨_, _, rfl⟩
variable {C : CC} (hC : Closed prog C)
include hC
theorem Product_c (x y : Nat) (hx : x < 9223372036854775808) (hy : y < 9223372036854775808) (h : x * y < 1329227995784915872903807060280344576) : C 99 [.int .i64 x, .int .i64 y] (.tup [wiD (x * y), .int .i64 0]) [] := by
  have k1 := wtimes_c hC x y hx hy
  have k2 := placed_c hC (x * y) h
  obtain ⟨a, b, e1⟩ := numD_ex (x * y)
  obtain ⟨c, d, e2⟩ := wiD_ex (x * y)
  rw [e1] at k1 k2
  rw [e2] at k2 ⊢
  refine start hC (nf := N99_wide_Product) rfl rfl ?_
  simp [N99_wide_Product]
  refine callW_of k1 (.inl rfl) ?_
  simp
  refine callW_of k2 (.inr rfl) ?_
  simp
theorem Int_c (p : Nat) (h : p < 9223372036854775808) : C 101 [wiD p] (.tup [.int .i64 p, .int .i64 0]) [] := by
  have k1 := wvalid_c hC p (by omega)
  have k2 := value_c hC p (by omega)
  have e1 : numD p false = .agg [.int .u64 0, .int .u64 p, .bool false] := by
    rw [numD, show p / 18446744073709551616 = 0 by omega, show p % 18446744073709551616 = p by omega]; rfl
  obtain ⟨c, d, e2⟩ := wiD_ex p
  rw [e1] at k2
  rw [e2] at k1 k2 ⊢
  refine start hC (nf := N101_wide_Int) rfl rfl ?_
  simp [N101_wide_Int]
  refine callW_of k1 (.inl rfl) ?_
  simp
  refine callW_of k2 (.inl rfl) ?_
  simp
  refine callW_of (whole_c hC p h) (.inl rfl) ?_
  simp
theorem Sub_c (p r : Nat) (hr : r ≤ p) (h : p < 1329227995784915872903807060280344576) : C 100 [wiD p, wiD r] (.tup [wiD (p - r), .int .i64 0]) [] := by
  have k1 := wvalid_c hC p h
  have k2 := wvalid_c hC r (by omega)
  have k3 := value_c hC p h
  have k4 := value_c hC r (by omega)
  have k5 := minus_c hC r
  have k6 := sum_c hC p r hr h
  have k7 := placed_c hC (p - r) (by omega)
  obtain ⟨a1, a2, e1⟩ := wiD_ex p
  obtain ⟨b1, b2, e2⟩ := wiD_ex r
  obtain ⟨c1, c2, e3⟩ := wiD_ex (p - r)
  obtain ⟨d1, d2, e4⟩ := numD_ex p
  obtain ⟨f1, f2, e5⟩ := numD_ex r
  obtain ⟨g1, g2, e6⟩ := numD_ex2 r (decide (r ≠ 0))
  obtain ⟨i1, i2, e7⟩ := numD_ex (p - r)
  obtain ⟨z, hz⟩ : ∃ z, z = decide (r ≠ 0) := ⟨_, rfl⟩
  rw [← hz] at k5 k6 e6
  rw [e1] at k1 k3 ⊢
  rw [e2] at k2 k4 ⊢
  rw [e3] at k7 ⊢
  rw [e4] at k3 k6
  rw [e5] at k4 k5
  rw [e6] at k5 k6
  rw [e7] at k6 k7
  refine start hC (nf := N100_wide_Sub) rfl rfl ?_
  simp [N100_wide_Sub]
  refine callW_of k1 (.inl rfl) ?_
  simp
  refine callW_of k2 (.inl rfl) ?_
  simp
  refine callW_of k3 (.inl rfl) ?_
  simp
  refine callW_of k4 (.inl rfl) ?_
  simp
  refine callW_of k5 (.inl rfl) ?_
  simp
  refine callW_of k6 (.inl rfl) ?_
  simp
  refine callW_of k7 (.inr rfl) ?_
  simp
  exact indW_of (by decide +kernel)
theorem Scale_c (u a d : Nat) (hu : u < 4503599627370496) (ha : a < d) (hd : d < 4503599627370496) : C 98 [.int .i64 u, .int .i64 a, .int .i64 d] (.tup [.int .i64 (u * a / d : Nat), .int .i64 ((u * a + d - 1) / d : Nat), .int .i64 0]) [] := by
  have h1 : u * a ≤ u * d := Nat.mul_le_mul_left _ (by omega)
  have h1' : u * d = d * u := Nat.mul_comm _ _
  have h2 : u * a / d ≤ u := Nat.le_of_lt_succ (Nat.div_lt_of_lt_mul (by rw [Nat.succ_eq_add_one, Nat.mul_add]; omega))
  have h3 : (u * a + d - 1) / d ≤ u := Nat.le_of_lt_succ (Nat.div_lt_of_lt_mul (by rw [Nat.succ_eq_add_one, Nat.mul_add]; omega))
  have h4 : u * a / 18446744073709551616 < d := by
    have h5 : u * d ≤ 4503599627370496 * d := Nat.mul_le_mul_right _ (by omega)
    omega
  have k1 := wtimes_c hC u a (by omega) (by omega)
  have k2 := quotient_c hC (u * a) d false (u * a / d) (by omega) h4 (by omega) rfl (by omega)
  have k3 := quotient_c hC (u * a) d true ((u * a + d - 1) / d) (by omega) h4 (by omega) rfl (by omega)
  obtain ⟨q1, e1⟩ : ∃ q, q = u * a / d := ⟨_, rfl⟩
  obtain ⟨q2, e2⟩ : ∃ q, q = (u * a + d - 1) / d := ⟨_, rfl⟩
  obtain ⟨a1, a2, e3⟩ := numD_ex (u * a)
  rw [e3] at k1 k2 k3
  rw [← e1] at k2 ⊢
  rw [← e2] at k3 ⊢
  have hd0 : ¬ (d : Int) = 0 := by omega
  clear h1 h1' h2 h3 h4 e1 e2 e3
  refine start hC (nf := N98_wide_Scale) rfl rfl ?_
  simp [N98_wide_Scale]
  refine brB_of (fun c => ?_) (fun c => ?_) <;> simp at c <;> simp [c]
  · omega
  refine callW_of k1 (.inr rfl) ?_
  simp
  refine callW_of k2 (.inl rfl) ?_
  simp
  refine callW_of k3 (.inl rfl) ?_
  simp
end Go.Gv

set_option linter.unusedSimpArgs false
namespace Go.Gv
/-- The number of knots before a number. -/
def posK (t : List (Int × Int)) (x : Int) : Nat := t.findIdx fun k => decide (x ≤ k.1)
def atK (t : List (Int × Int)) (x : Int) : Bool := decide (posK t x < t.length) && decide (t[posK t x]!.1 = x)
/-- The value between two knots: the part below it, the rest, and the denominator. -/
def betK (a b : Int × Int) (x : Int) : Int × Int × Int := (a.2 + (b.2 - a.2) * (x - a.1) / (b.1 - a.1), (b.2 - a.2) * (x - a.1) % (b.1 - a.1), b.1 - a.1)
def pieceF (t : List (Int × Int)) (x : Int) : Int × Int × Int :=
  if atK t x || decide (posK t x = 0) then (t[posK t x]!.2, 0, 1)
  else if posK t x = t.length then (t[posK t x - 1]!.2, 0, 1)
  else betK t[posK t x - 1]! t[posK t x]! x
theorem posK_le (t : List (Int × Int)) (x : Int) : posK t x ≤ t.length := List.findIdx_le_length
theorem posK_lt {t : List (Int × Int)} {x : Int} {j : Nat} (h : j < posK t x) (hl : j < t.length) : t[j].1 < x := by
  have := List.not_of_lt_findIdx h
  simp at this
  exact this
theorem posK_ge {t : List (Int × Int)} {x : Int} (h : posK t x < t.length) : x ≤ t[posK t x].1 := by
  have h2 := List.findIdx_getElem (w := h)
  exact of_decide_eq_true h2
theorem posK_of_le {t : List (Int × Int)} {x : Int} {j : Nat} (hl : j < t.length) (h : x ≤ t[j].1) : posK t x ≤ j := by
  apply Nat.le_of_not_lt
  intro hj
  have := posK_lt hj hl
  omega
theorem valid_le {t : List (Int × Int)} (h : tableValid t = true) {j i : Nat} (hi : i < t.length) (hj : j ≤ i) : t[j].1 ≤ t[i].1 := by
  rcases Nat.lt_or_eq_of_le hj with h1 | rfl
  · have := valid_asc h j i hi h1; omega
  · exact Int.le_refl _
theorem posK_of_lt {t : List (Int × Int)} (hv : tableValid t = true) {x : Int} {j : Nat} (hl : j < t.length) (h : t[j].1 < x) : j < posK t x := by
  apply Nat.lt_of_not_le
  intro hj
  have h1 := posK_ge (t := t) (x := x) (by omega)
  have h2 := valid_le hv hl hj
  omega
theorem between_facts {t : List (Int × Int)} {x : Int} (h : tableValid t = true) (h0 : posK t x ≠ 0) (h1 : posK t x < t.length) (h2 : atK t x = false) :
    ∃ k u a d : Nat, posK t x = k + 1 ∧ k + 1 < t.length ∧ ∃ (g0 : k < t.length) (g1 : k + 1 < t.length), t[k + 1].2 - t[k].2 = u ∧ x - t[k].1 = a ∧ t[k + 1].1 - t[k].1 = d ∧ u < 4503599627370496 ∧ 0 < a ∧ a < d ∧ d < 4503599627370496 ∧ -1125899906842624 ≤ t[k].2 ∧ t[k].2 ≤ 1125899906842624 ∧ t[k].2 + u ≤ 1125899906842624 ∧ t[posK t x - 1]! = t[k] ∧ t[posK t x]! = t[k + 1] ∧ -1125899906842624 ≤ t[k].1 ∧ t[k].1 ≤ 1125899906842624 ∧ t[k + 1].1 ≤ 1125899906842624 := by
  obtain ⟨k, hk⟩ : ∃ k, posK t x = k + 1 := ⟨posK t x - 1, by omega⟩
  have hlt : t[k].1 < x := posK_lt (by omega) (by omega)
  have hge := posK_ge h1
  have e1 : t[posK t x]! = t[posK t x] := getElem!_pos t _ h1
  simp only [atK, h1, decide_true, Bool.true_and, decide_eq_false_iff_not, e1] at h2
  rw [hk] at h1
  simp only [hk] at hge h2 e1
  obtain ⟨f1, f2, f3⟩ := valid_ok h (show k < t.length by omega)
  obtain ⟨f4, f5, f6⟩ := valid_ok h h1
  have f7 := f6 k rfl
  simp only [fits, Bool.and_eq_true, decide_eq_true_eq] at f1 f2 f4 f5
  refine ⟨k, (t[k + 1].2 - t[k].2).toNat, (x - t[k].1).toNat, (t[k + 1].1 - t[k].1).toNat, hk, h1, by omega, h1, by omega, by omega, by omega, by omega, by omega, by omega, by omega, by omega, by omega, by omega, ?_, ?_, by omega, by omega, by omega⟩
  · rw [hk]; exact getElem!_pos t k (by omega)
  · rw [hk]; exact e1
theorem betN {p q : Int × Int} {u a d : Nat} {x : Int} (h1 : q.2 - p.2 = u) (h2 : x - p.1 = a) (h3 : q.1 - p.1 = d) : betK p q x = (p.2 + ((u * a / d : Nat) : Int), ((u * a % d : Nat) : Int), (d : Int)) := by
  simp only [betK, h1, h2, h3]
  push_cast
  rfl
variable {C : CC} (hC : Closed prog C)
include hC
theorem find_c (b : Bool) (t : List (Int × Int)) (x : Int) (h : tableValid t = true) : C 96 [slx b (t.map knD), .int .i64 x, .fn 97 []] (.tup [.int .i64 (posK t x), .bool (atK t x)]) [] := by
  obtain ⟨l1, l2⟩ := valid_len h
  have hpl := posK_le t x
  obtain ⟨n, hn⟩ : ∃ n, n = posK t x := ⟨_, rfl⟩
  obtain ⟨r, hr⟩ : ∃ r, r = atK t x := ⟨_, rfl⟩
  have hlt : ∀ j, (hj : j < t.length) → t[j].1 < x → j < n := fun j hj h1 => hn ▸ posK_of_lt h hj h1
  have hle : ∀ j, (hj : j < t.length) → x ≤ t[j].1 → n ≤ j := fun j hj h1 => hn ▸ posK_of_le hj h1
  rw [← hn] at hpl ⊢
  rw [← hr]
  rw [atK, ← hn] at hr
  refine start hC (nf := N96_slices_BinarySearchFunc_api_Table_api_Knot_int) rfl rfl ?_
  simp [N96_slices_BinarySearchFunc_api_Table_api_Knot_int]
  refine loop_of (Nat × Nat) (fun s => [(0, slx b (t.map knD)), (1, .int .i64 x), (2, .fn 97 []), (8, .int .i64 t.length), (9, .int .i64 s.1), (10, .int .i64 s.2)]) (fun s => s.1 ≤ n ∧ n ≤ s.2 ∧ s.2 ≤ t.length) (fun s => s.2 - s.1) (0, t.length) (by simp; omega) (by simp) ?_
  rintro ⟨i, j⟩ ⟨h1, h2, h3⟩
  simp only at h1 h2 h3
  simp
  refine brB_of (fun c => ?_) (fun c => ?_) <;> simp [c] <;> simp at c
  · obtain ⟨m, hm⟩ : ∃ m, m = (i + j) / 2 := ⟨_, rfl⟩
    have e1 : IntKind.wrap .i64 ((i : Int) + (j : Int)) = ((i + j : Nat) : Int) := wrap_i64 (by omega) (by omega)
    obtain ⟨s, hs⟩ : ∃ s, s = i + j := ⟨_, rfl⟩
    rw [← hs] at e1 hm
    have e2 : Int.fdiv (s : Int) (2 ^ min 1 IntKind.u64.bits) = (m : Int) := by rw [hm]; exact shrN s 1
    have e3 : IntKind.wrap .i64 (m : Int) = (m : Int) := wrap_i64 rfl (by omega)
    have e4 : IntKind.wrap .i64 ((m : Int) + 1) = ((m + 1 : Nat) : Int) := wrap_i64 (by omega) (by omega)
    have hml : m < t.length := by omega
    simp [e1, wrapN s (by omega), e2, e3, hml]
    have hc := cmpKnot_c hC t[m] x
    simp [knD] at hc ⊢
    refine callW_of hc (.inl rfl) ?_
    by_cases hmn : t[m].1 < x
    · have := hlt m hml hmn
      simp [hmn, e4]
      exact ⟨m + 1, j, ⟨by omega, h2, h3⟩, by omega, by omega, by omega⟩
    · have := hle m hml (by omega)
      have hz : ¬ (if x < t[m].1 then (1 : Int) else 0) < 0 := by split <;> omega
      simp [hmn, hz]
      exact ⟨i, m, ⟨by omega, by omega, by omega⟩, by omega, by omega, by omega⟩
  · have : i = n := by omega
    subst this
    refine brB_of (fun c2 => ?_) (fun c2 => ?_) <;> simp at c2 <;> simp [c2]
    · have hc := cmpKnot_c hC t[i] x
      have hge : ¬ t[i].1 < x := fun e => by have := hlt i c2 e; omega
      have e1 : t[i]! = t[i] := getElem!_pos t i c2
      simp [knD] at hc ⊢
      refine callW_of hc (.inl rfl) ?_
      simp [hge, hr, c2, e1]
      omega
    · have : ¬ i < t.length := by omega
      simp [hr, this]
set_option maxHeartbeats 4000000 in
theorem pieceG_c (b : Bool) (t : List (Int × Int)) (x : Int) (h : tableValid t = true) : C 90 [slx b (t.map knD), .int .i64 x] (.tup [.int .i64 (pieceF t x).1, .int .i64 (pieceF t x).2.1, .int .i64 (pieceF t x).2.2]) [] := by
  obtain ⟨l1, l2⟩ := valid_len h
  have hpl := posK_le t x
  have hk := find_c hC b t x h
  obtain ⟨p1, hp1⟩ : ∃ z, z = (pieceF t x).1 := ⟨_, rfl⟩
  obtain ⟨p2, hp2⟩ : ∃ z, z = (pieceF t x).2.1 := ⟨_, rfl⟩
  obtain ⟨p3, hp3⟩ : ∃ z, z = (pieceF t x).2.2 := ⟨_, rfl⟩
  rw [← hp1, ← hp2, ← hp3]
  unfold pieceF at hp1 hp2 hp3
  refine start hC (nf := N90_table_piece) rfl rfl ?_
  simp [N90_table_piece]
  refine callW_of hk (.inl rfl) ?_
  cases ha : atK t x
  · simp
    refine brB_of (fun c => ?_) (fun c => ?_) <;> simp at c <;> simp [c]
    · have h0 : 0 < t.length := by omega
      have e0 : t[0]! = t[0] := getElem!_pos t 0 h0
      rw [if_pos (by simp [c]), c, e0] at hp1 hp2 hp3
      simp [h0, knD, hp1, hp2, hp3]
    refine brB_of (fun c2 => ?_) (fun c2 => ?_) <;> simp at c2 <;> simp [c2]
    · obtain ⟨n, hn⟩ : ∃ n, n + 1 = t.length := ⟨t.length - 1, by omega⟩
      have e1 : IntKind.wrap .i64 ((t.length : Int) - 1) = (n : Int) := wrap_i64 (by omega) (by omega)
      have hnl : n < t.length := by omega
      have e0 : t[posK t x - 1]! = t[n] := by rw [show posK t x - 1 = n by omega]; exact getElem!_pos t n hnl
      rw [if_neg (by simp [ha, c]), if_pos (by omega), e0] at hp1 hp2 hp3
      simp [e1, hnl, knD, hp1, hp2, hp3]
    · obtain ⟨k, u, a, d, q1, q2, g0, g1, r1, r2, r3, r4, r5, r6, r7, r8, r9, r10, s1, s2, r11, r12, r13⟩ := between_facts h c (by omega) ha
      rw [if_neg (by simp [ha, c]), if_neg (by omega), s1, s2, betN r1 r2 r3] at hp1 hp2 hp3
      simp only at hp1 hp2 hp3
      have ew1 : IntKind.wrap .i64 (k : Int) = (k : Int) := wrap_i64 rfl (by omega)
      have ew2 : IntKind.wrap .i64 (t[k + 1].2 - t[k].2) = (u : Int) := wrap_i64 r1 (by omega)
      have ew3 : IntKind.wrap .i64 (x - t[k].1) = (a : Int) := wrap_i64 r2 (by omega)
      have ew4 : IntKind.wrap .i64 (t[k + 1].1 - t[k].1) = (d : Int) := wrap_i64 r3 (by omega)
      have b1 : u * a < 1329227995784915872903807060280344576 := by
        have := Nat.mul_le_mul (show u ≤ 4503599627370496 by omega) (show a ≤ 4503599627370496 by omega)
        omega
      have b2 : u * a / d * d ≤ u * a := Nat.div_mul_le_self _ _
      have b3 : u * a - u * a / d * d = u * a % d := by
        have := Nat.div_add_mod' (u * a) d
        omega
      have b4 : u * a % d < d := Nat.mod_lt _ (by omega)
      have b5 : u * a / d ≤ u := by
        have h1 : u * a ≤ u * d := Nat.mul_le_mul_left _ (by omega)
        have h1' : u * d = d * u := Nat.mul_comm _ _
        exact Nat.le_of_lt_succ (Nat.div_lt_of_lt_mul (by rw [Nat.succ_eq_add_one, Nat.mul_add]; omega))
      have k1 := Scale_c hC u a d r4 r6 r7
      have k2 := Product_c hC u a (by omega) (by omega) b1
      have k3 := Product_c hC (u * a / d) d (by omega) (by omega) (by omega)
      have k4 := Sub_c hC (u * a) (u * a / d * d) b2 b1
      have k5 := Int_c hC (u * a % d) (by omega)
      rw [b3] at k4
      obtain ⟨v1, v2, f1⟩ := wiD_ex (u * a)
      obtain ⟨v3, v4, f2⟩ := wiD_ex (u * a / d * d)
      obtain ⟨v5, v6, f3⟩ := wiD_ex (u * a % d)
      rw [f1] at k2 k4
      rw [f2] at k3 k4
      rw [f3] at k4 k5
      clear b1 b2 b3 f1 f2 f3
      obtain ⟨q, eq⟩ : ∃ q, q = u * a / d := ⟨_, rfl⟩
      obtain ⟨q', eq'⟩ : ∃ q, q = (u * a + d - 1) / d := ⟨_, rfl⟩
      obtain ⟨m, em⟩ : ∃ q, q = u * a % d := ⟨_, rfl⟩
      rw [← eq] at k1 k3 b5 hp1
      rw [← eq'] at k1
      rw [← em] at k5 hp2
      have ew5 : IntKind.wrap .i64 (t[k].2 + (q : Int)) = t[k].2 + (q : Int) := wrap_i64 rfl (by omega)
      simp [ew1, q1, g0, g1, knD]
      refine ⟨indW_of (by decide +kernel), ?_⟩
      simp [ew2, ew3, ew4]
      refine ⟨indW_of (by decide +kernel), ?_⟩
      refine callW_of k1 (.inl rfl) ?_
      simp
      refine callW_of k2 (.inr rfl) ?_
      simp
      refine callW_of k3 (.inr rfl) ?_
      simp
      refine callW_of k4 (.inr rfl) ?_
      simp
      refine callW_of k5 (.inl rfl) ?_
      simp [ew5, hp1, hp2, hp3]
  · have hlt : posK t x < t.length := by simp [atK] at ha; exact ha.1
    have e0 : t[posK t x]! = t[posK t x] := getElem!_pos t _ hlt
    rw [if_pos (by simp [ha]), e0] at hp1 hp2 hp3
    simp [hlt, knD, hp1, hp2, hp3]
theorem FloorG_c (b : Bool) (t : List (Int × Int)) (x : Int) (h : tableValid t = true) : C 73 [slx b (t.map knD), .int .i64 x] (.tup [.int .i64 (pieceF t x).1, .int .i64 0]) [] := by
  refine start hC (nf := N73_table_Floor) rfl rfl ?_
  simp [N73_table_Floor]
  refine callW_of (tableValid_c hC b t) (.inl rfl) ?_
  simp [h]
  refine callW_of (pieceG_c hC b t x h) (.inl rfl) ?_
  simp
end Go.Gv

set_option linter.unusedSimpArgs false
namespace Go.Gv
/-- A search by halves: the fuel, and the two ends. -/
def bis (p : Nat → Bool) : Nat → Nat → Nat → Nat
  | 0, lo, _ => lo
  | f + 1, lo, hi => if lo < hi then (if p ((lo + hi) / 2) then bis p f lo ((lo + hi) / 2) else bis p f ((lo + hi) / 2 + 1) hi) else lo
theorem bis_end (p : Nat → Bool) (f lo hi : Nat) (h : hi ≤ lo) : bis p f lo hi = lo := by
  cases f with
  | zero => rfl
  | succ f => simp only [bis]; rw [if_neg (by omega)]
theorem bis_step {p : Nat → Bool} {f lo hi : Nat} (h : lo < hi) (hf : hi - lo < 2 ^ f) : ∃ f', hi - (lo + hi) / 2 < 2 ^ f ∧ ((lo + hi) / 2 - lo < 2 ^ f') ∧ (hi - ((lo + hi) / 2 + 1) < 2 ^ f') ∧ bis p f lo hi = if p ((lo + hi) / 2) then bis p f' lo ((lo + hi) / 2) else bis p f' ((lo + hi) / 2 + 1) hi := by
  cases f with
  | zero => simp at hf; omega
  | succ f =>
    rw [Nat.pow_succ] at hf
    refine ⟨f, by rw [Nat.pow_succ]; omega, by omega, by omega, ?_⟩
    simp only [bis]
    rw [if_pos h]
theorem bis_range (p : Nat → Bool) : ∀ (f lo hi : Nat), lo ≤ hi → lo ≤ bis p f lo hi ∧ bis p f lo hi ≤ hi
  | 0, lo, hi, h => ⟨Nat.le_refl _, h⟩
  | f + 1, lo, hi, h => by
    simp only [bis]
    split
    · split
      · have := bis_range p f lo ((lo + hi) / 2) (by omega); omega
      · have := bis_range p f ((lo + hi) / 2 + 1) hi (by omega); omega
    · omega
theorem bis_mono {p q : Nat → Bool} (h : ∀ n, q n = true → p n = true) : ∀ (f lo hi : Nat), lo ≤ hi → bis p f lo hi ≤ bis q f lo hi
  | 0, lo, hi, _ => Nat.le_refl _
  | f + 1, lo, hi, hlh => by
    simp only [bis]
    split
    · cases hp : p ((lo + hi) / 2)
      · have hq : q ((lo + hi) / 2) = false := by
          cases hq : q ((lo + hi) / 2)
          · rfl
          · rw [h _ hq] at hp; cases hp
        rw [hq]
        simp only [Bool.false_eq_true, if_false]
        exact bis_mono h f _ _ (by omega)
      · cases hq : q ((lo + hi) / 2)
        · simp only [Bool.false_eq_true, if_false, if_true]
          have h1 := bis_range p f lo ((lo + hi) / 2) (by omega)
          have h2 := bis_range q f ((lo + hi) / 2 + 1) hi (by omega)
          omega
        · simp only [if_true]
          exact bis_mono h f _ _ (by omega)
    · exact Nat.le_refl _
theorem valid_val {t : List (Int × Int)} (h : tableValid t = true) : ∀ {i j : Nat} (hi : i < t.length) (hj : j ≤ i), t[j].2 ≤ t[i].2 := by
  intro i
  induction i with
  | zero => intro j hi hj; have : j = 0 := by omega
            subst this; exact Int.le_refl _
  | succ i ih =>
    intro j hi hj
    rcases Nat.lt_or_eq_of_le hj with h1 | rfl
    · have h2 := ((valid_ok h hi).2.2 i rfl).2
      have := ih (by omega) (show j ≤ i by omega)
      omega
    · exact Int.le_refl _
/-- Between which values of knots a value lies. -/
theorem pieceF_knots {t : List (Int × Int)} (h : tableValid t = true) (x : Int) : ∃ i j : Nat, ∃ (hi : i < t.length) (hj : j < t.length), t[i].2 ≤ (pieceF t x).1 ∧ (pieceF t x).1 ≤ t[j].2 := by
  obtain ⟨l1, l2⟩ := valid_len h
  have hpl := posK_le t x
  unfold pieceF
  cases ha : atK t x
  · by_cases c : posK t x = 0
    · have h0 : 0 < t.length := by omega
      rw [if_pos (by simp [c]), c, getElem!_pos t 0 h0]
      exact ⟨0, 0, h0, h0, Int.le_refl _, Int.le_refl _⟩
    rw [if_neg (by simp [c])]
    by_cases c2 : posK t x = t.length
    · obtain ⟨n, hn⟩ : ∃ n, n + 1 = t.length := ⟨t.length - 1, by omega⟩
      have hnl : n < t.length := by omega
      rw [if_pos c2, show posK t x - 1 = n by omega, getElem!_pos t n hnl]
      exact ⟨n, n, hnl, hnl, Int.le_refl _, Int.le_refl _⟩
    · obtain ⟨k, u, a, d, q1, q2, g0, g1, r1, r2, r3, r4, r5, r6, r7, r8, r9, r10, s1, s2, r11, r12, r13⟩ := between_facts h c (by omega) ha
      rw [if_neg c2, s1, s2, betN r1 r2 r3]
      have b5 : u * a / d ≤ u := by
        have h1 : u * a ≤ u * d := Nat.mul_le_mul_left _ (by omega)
        have h1' : u * d = d * u := Nat.mul_comm _ _
        exact Nat.le_of_lt_succ (Nat.div_lt_of_lt_mul (by rw [Nat.succ_eq_add_one, Nat.mul_add]; omega))
      generalize u * a / d = q at b5
      exact ⟨k, k + 1, g0, g1, by simp only; omega, by simp only; omega⟩
  · have hlt : posK t x < t.length := by simp [atK] at ha; exact ha.1
    rw [if_pos (by simp), getElem!_pos t _ hlt]
    exact ⟨_, _, hlt, hlt, Int.le_refl _, Int.le_refl _⟩
theorem pieceF_range {t : List (Int × Int)} (h : tableValid t = true) (x : Int) : t[0]!.2 ≤ (pieceF t x).1 ∧ (pieceF t x).1 ≤ (lastK t).2 := by
  obtain ⟨l1, l2⟩ := valid_len h
  obtain ⟨i, j, hi, hj, h1, h2⟩ := pieceF_knots h x
  obtain ⟨n, hn⟩ : ∃ n, n + 1 = t.length := ⟨t.length - 1, by omega⟩
  have h0 : 0 < t.length := by omega
  rw [lastK_get hn, getElem!_pos t 0 h0]
  have k1 := valid_val h hi (show 0 ≤ i by omega)
  have k2 := valid_val h (show n < t.length by omega) (show j ≤ n by omega)
  omega
def carF (s : Sec) (depth fall len : Int) : Nat := rootN ((pieceF s.conv depth).1.toNat * (pieceF s.conv depth).1.toNat * fall.toNat / len.toNat)
def enoughD (s : Sec) (flow fall len : Int) (m : Nat) : Bool := decide (flow ≤ (carF s m fall len : Int))
def leastD (s : Sec) (flow fall len : Int) : Nat := bis (enoughD s flow fall len) 40 0 (s.height.toNat + 1)
def depthF (s : Sec) (flow fall len : Int) : Int × Int :=
  if secValid s then (if 0 ≤ flow ∧ flow ≤ 1099511627776 ∧ slopeOk fall len = true then (if s.height.toNat < leastD s flow fall len then (0, 28) else (leastD s flow fall len, 0)) else (0, 2)) else (0, 1)
theorem conv_any {s : Sec} (h : secValid s = true) (x : Int) : 0 ≤ (pieceF s.conv x).1 ∧ (pieceF s.conv x).1 ≤ 1099511627776 := by
  obtain ⟨h1, h2, h3, h4⟩ := conv_last h
  have hr := pieceF_range h1 x
  simp only [secValid, curveOk, Bool.and_eq_true, decide_eq_true_eq, beq_iff_eq] at h
  have h0 := h.2.1.1.2.2
  omega

variable {C : CC} (hC : Closed prog C)
include hC
theorem carriedG_c (s : Sec) (depth fall len : Int) (hv : secValid s = true) (hs : slopeOk fall len = true) : C 61 [.agg (secC s), .int .i64 depth, .int .i64 fall, .int .i64 len] (.tup [.int .i64 (carF s depth fall len), .int .i64 0]) [] := by
  obtain ⟨c1, _, _, _⟩ := conv_last hv
  obtain ⟨c3, c4⟩ := conv_any hv depth
  simp only [slopeOk, Bool.and_eq_true, decide_eq_true_eq] at hs
  have hF := FloorG_c hC s.convN s.conv depth c1
  obtain ⟨k, hk⟩ : ∃ k : Nat, (pieceF s.conv depth).1 = k := ⟨(pieceF s.conv depth).1.toNat, by omega⟩
  obtain ⟨f, rfl⟩ : ∃ f : Nat, fall = f := ⟨fall.toNat, by omega⟩
  obtain ⟨l, rfl⟩ : ∃ l : Nat, len = l := ⟨len.toNat, by omega⟩
  have hcap : carF s depth f l = rootN (k * k * f / l) := by simp [carF, hk]
  rw [hk] at hF
  rw [hcap]
  have hb := cap_lt (k := k) (f := f) (by omega) (by omega)
  have hb0 : k * k ≤ 1208925819614629174706176 := Nat.mul_le_mul (show k ≤ 1099511627776 by omega) (show k ≤ 1099511627776 by omega)
  have hb2 := Nat.div_le_self (k * k * f) l
  refine start hC (nf := N61_catalogue_carried) rfl rfl ?_
  simp [N61_catalogue_carried, secC]
  refine callW_of hF (.inl rfl) ?_
  simp
  refine callW_of (product_c hC k k (by omega) (by omega)) (.inl rfl) ?_
  have v : ∀ x, isV (wideD x) = true ∧ (∀ f : Nat → D, dpOk f (wideD x)) ∧ (∀ f : Nat → D, dp f (wideD x) = wideD x) ∧ ∀ ks, kill1 ks (wideD x) = wideD x := fun x => ⟨rfl, fun _ => trivial, fun _ => rfl, fun _ => by simp [wideD]⟩
  simp [v]
  refine callW_of (times_c hC (k * k) f (by omega) (by omega) (by omega)) (.inl rfl) ?_
  simp [v]
  refine callW_of (over_c hC (k * k * f) l (by omega) (by omega) (by omega)) (.inl rfl) ?_
  simp [v]
  refine callW_of (root_c hC (k * k * f / l)) (.inl rfl) ?_
  simp
theorem Depth_c (s : Sec) (flow fall len : Int) : C 165 [.agg (secC s), .int .i64 flow, .int .i64 fall, .int .i64 len] (.tup [.int .i64 (depthF s flow fall len).1, .int .i64 (depthF s flow fall len).2]) [] := by
  obtain ⟨r, hr⟩ : ∃ r, r = depthF s flow fall len := ⟨_, rfl⟩
  rw [← hr]
  unfold depthF at hr
  have hvc := valid_c hC s
  have hsl := slope_c hC fall len
  have es : (decide (0 ≤ fall) && decide (fall ≤ 4194304) && decide (1 ≤ len) && decide (len ≤ 16777216)) = slopeOk fall len := rfl
  rw [es] at hsl
  rw [secC] at hvc
  refine start hC (nf := N165_catalogue_Depth) rfl rfl ?_
  simp [N165_catalogue_Depth, secC]
  refine callW_of hvc (.inl rfl) ?_
  cases hv : secValid s
  · rw [if_neg (by simp [hv])] at hr
    simp [hr]
  rw [if_pos hv] at hr
  have hh : 1 ≤ s.height ∧ s.height ≤ 32768 := by
    simp only [secValid, Bool.and_eq_true, decide_eq_true_eq] at hv
    omega
  obtain ⟨H, hH⟩ : ∃ H : Nat, s.height = H := ⟨s.height.toNat, by omega⟩
  simp
  refine brB_of (fun c1 => ?_) (fun c1 => ?_) <;> simp at c1 <;> simp [c1]
  · rw [if_neg (by omega)] at hr
    simp [hr]
  refine brB_of (fun c2 => ?_) (fun c2 => ?_) <;> simp at c2 <;> simp [c2]
  · rw [if_neg (by omega)] at hr
    simp [hr]
  refine callW_of hsl (.inl rfl) ?_
  cases hs : slopeOk fall len
  · rw [if_neg (by simp [hs])] at hr
    simp [hr]
  rw [if_pos ⟨by omega, by omega, hs⟩] at hr
  have e1 : IntKind.wrap .i64 (s.height + 1) = ((H + 1 : Nat) : Int) := wrap_i64 (by omega) (by omega)
  simp [e1]
  refine ⟨indW_of (by decide +kernel), ?_⟩
  have hl : leastD s flow fall len = bis (enoughD s flow fall len) 40 0 (H + 1) := by rw [leastD, hH]; rfl
  obtain ⟨L, hL⟩ : ∃ L, L = leastD s flow fall len := ⟨_, rfl⟩
  rw [← hL] at hl hr
  rw [hH] at hr
  have hcc := fun m : Nat => carriedG_c hC s m fall len hv hs
  simp only [secC, hH] at hcc
  simp only [hH]
  refine loop_of (Nat × Nat × Nat) (fun z => [(1, .int .i64 flow), (2, .int .i64 fall), (3, .int .i64 len), (4, .ptr [.str s.name, .int .i64 H, .int .i64 s.price, slx s.areaN (s.area.map knD), slx s.convN (s.conv.map knD)]), (10, .int .i64 z.2.1), (11, .int .i64 z.2.2)])
    (fun z => z.2.1 ≤ z.2.2 ∧ z.2.2 ≤ H + 1 ∧ z.2.2 - z.2.1 < 2 ^ z.1 ∧ bis (enoughD s flow fall len) z.1 z.2.1 z.2.2 = L) (fun z => z.2.2 - z.2.1) (40, 0, H + 1) ⟨by simp, by simp, by simp; omega, by rw [hl]⟩ (by simp) ?_
  rintro ⟨f, lo, hi⟩ ⟨i1, i2, i3, i4⟩
  simp only at i1 i2 i3 i4
  simp
  refine brB_of (fun c => ?_) (fun c => ?_) <;> simp at c <;> simp [c]
  · obtain ⟨f', _, j2, j3, j4⟩ := bis_step (p := enoughD s flow fall len) c i3
    obtain ⟨sm, hsm⟩ : ∃ sm, sm = lo + hi := ⟨_, rfl⟩
    rw [← hsm] at j2 j3 j4
    obtain ⟨m, hm⟩ : ∃ m, m = sm / 2 := ⟨_, rfl⟩
    rw [← hm] at j2 j3 j4
    have e2 : IntKind.wrap .i64 ((lo : Int) + (hi : Int)) = (sm : Int) := wrap_i64 (by omega) (by omega)
    have e3 : Int.tdiv (sm : Int) 2 = (m : Int) := by rw [hm]; exact tdivN sm 2
    have e4 : IntKind.wrap .i64 (m : Int) = (m : Int) := wrap_i64 rfl (by omega)
    have e5 : IntKind.wrap .i64 ((m : Int) + 1) = ((m + 1 : Nat) : Int) := wrap_i64 (by omega) (by omega)
    rw [i4] at j4
    simp [e2, e3, e4]
    refine callW_of (hcc m) (.inl rfl) ?_
    simp
    refine brB_of (fun c3 => ?_) (fun c3 => ?_) <;> simp at c3 <;> simp [c3]
    · rw [if_pos (by simp [enoughD, c3])] at j4
      exact ⟨f', lo, m, ⟨by omega, by omega, j2, j4.symm⟩, by omega, by omega, by omega⟩
    · rw [if_neg (by simp [enoughD]; omega)] at j4
      simp [e5]
      exact ⟨f', m + 1, hi, ⟨by omega, by omega, j3, j4.symm⟩, by omega, by omega, by omega⟩
  · rw [bis_end _ _ _ _ c] at i4
    subst i4
    refine brB_of (fun c3 => ?_) (fun c3 => ?_) <;> simp at c3 <;> simp [c3]
    · rw [if_pos (by simp; omega)] at hr
      simp [hr]
    · rw [if_neg (by simp; omega)] at hr
      simp [hr]
end Go.Gv

set_option linter.unusedSimpArgs false
namespace Go.Gv
def enoughL (k flow len n : Nat) : Bool := decide (flow * flow * len ≤ k * k * n)
def lossN (k flow len : Nat) : Int × Int := if flow = 0 then (0, 0) else if k = 0 then (0, 16) else if enoughL k flow len 1073741824 then (bis (enoughL k flow len) 40 0 1073741824, 0) else (0, 5)
def lossF (l : Lnk) (s : Sec) (flow : Int) : Int × Int := lossN (lastK s.conv).2.toNat flow.toNat l.len.toNat
theorem sq_lt {q n : Nat} (hq : q ≤ 1099511627776) (hn : n ≤ 1073741824) : q * q * n ≤ 1298074214633706907132624082305024 := Nat.mul_le_mul (Nat.mul_le_mul hq hq) hn
variable {C : CC} (hC : Closed prog C)
include hC
theorem square_c (q n : Nat) (hq : q < 9223372036854775808) (hn : n < 9223372036854775808) (hx : q * q < 340282366920938463463374607431768211456) (hxk : q * q * n < 340282366920938463463374607431768211456) : C 166 [.int .i64 q, .int .i64 n] (.tup [.int .u64 ((q * q * n / 18446744073709551616 : Nat) : Int), .int .u64 ((q * q * n % 18446744073709551616 : Nat) : Int)]) [] := by
  have k1 := Mul64_c hC q q (by omega) (by omega)
  obtain ⟨x, hxx⟩ : ∃ x, x = q * q := ⟨_, rfl⟩
  rw [← hxx] at hx hxk k1 ⊢
  have e := mulwide (x := x) (k := n)
  obtain ⟨h, hh⟩ : ∃ h, h = x / 18446744073709551616 := ⟨_, rfl⟩
  obtain ⟨l, hl⟩ : ∃ l, l = x % 18446744073709551616 := ⟨_, rfl⟩
  have hh' : h < 18446744073709551616 := by omega
  have hl' : l < 18446744073709551616 := by omega
  rw [← hh, ← hl] at e k1
  have k2 := Mul64_c hC l n hl' (by omega)
  obtain ⟨p, hp⟩ : ∃ p, p = l * n / 18446744073709551616 := ⟨_, rfl⟩
  obtain ⟨r, hr⟩ : ∃ r, r = l * n % 18446744073709551616 := ⟨_, rfl⟩
  rw [← hp, ← hr] at e k2
  have hq' : r < 18446744073709551616 := by omega
  obtain ⟨z, hz⟩ : ∃ z, z = h * n := ⟨_, rfl⟩
  obtain ⟨y, hy⟩ : ∃ y, y = x * n := ⟨_, rfl⟩
  rw [← hz, ← hy] at e
  rw [← hy] at hxk ⊢
  obtain ⟨t, ht⟩ : ∃ t, t = z + p := ⟨_, rfl⟩
  rw [← ht] at e
  have e1 : y / 18446744073709551616 = t := by omega
  have e2 : y % 18446744073709551616 = r := by omega
  have ht' : t < 18446744073709551616 := by omega
  have et : IntKind.u64.wrap ((p : Int) + IntKind.u64.wrap ((h : Int) * (n : Int))) = (t : Int) := by
    rw [mulN h n, ← hz, wrapU, wrapU]
    clear hxk hx e e1 e2 hr hp hl hh hy hz
    omega
  rw [e1, e2]
  clear e1 e2 e hh hl hx hxk hxx hp hr hz hy ht
  refine start hC (nf := N166_backwater_square) rfl rfl ?_
  simp [N166_backwater_square, wrapN q (by omega), wrapN n (by omega)]
  refine callW_of k1 (.inl rfl) ?_
  simp [wrapN n (by omega)]
  refine callW_of k2 (.inl rfl) ?_
  simp [et, wrapN n (by omega)]
theorem enough_c (k n a b : Nat) (hk : k ≤ 1099511627776) (hn : n ≤ 1073741824) (hb : b < 18446744073709551616) : C 167 [.int .i64 n, .ptr [.int .i64 k], .ptr [.int .u64 a], .ptr [.int .u64 b]] (.bool (decide (a * 18446744073709551616 + b ≤ k * k * n))) [] := by
  have h1 := sq_lt hk hn
  have h2 : k * k ≤ 1208925819614629174706176 := Nat.mul_le_mul hk hk
  have k1 := square_c hC k n (by omega) (by omega) (by omega) (by omega)
  obtain ⟨z, hz⟩ : ∃ z, z = k * k * n := ⟨_, rfl⟩
  rw [← hz] at k1 ⊢
  obtain ⟨h, hh⟩ : ∃ h, h = z / 18446744073709551616 := ⟨_, rfl⟩
  obtain ⟨l, hl⟩ : ∃ l, l = z % 18446744073709551616 := ⟨_, rfl⟩
  rw [← hh, ← hl] at k1
  have e : decide (a * 18446744073709551616 + b ≤ z) = (decide (a < h) || (decide (h = a) && decide (b ≤ l))) := by
    rw [Bool.eq_iff_iff]; simp; omega
  rw [e]
  clear hz h1 h2
  refine start hC (nf := N167_backwater_loss_1) rfl rfl ?_
  simp [N167_backwater_loss_1]
  refine callW_of k1 (.inl rfl) ?_
  simp
  refine brB_of (fun c => ?_) (fun c => ?_) <;> simp at c <;> simp [c]
  refine brB_of (fun c2 => ?_) (fun c2 => ?_) <;> simp at c2 <;> simp [c2]
  · simp [show ¬ a < h by omega, show h = a by omega]
  · omega
theorem loss_c (l : Lnk) (s : Sec) (flow : Int) (hv : secValid s = true) (hl : 1 ≤ l.len ∧ l.len ≤ 16777216) (hf : 0 ≤ flow ∧ flow ≤ 1099511627776) : C 163 [.agg (lnkC l), .agg (secC s), .int .i64 flow] (.tup [.int .i64 (lossF l s flow).1, .int .i64 (lossF l s flow).2]) [] := by
  obtain ⟨c1, c2, c3, c4⟩ := conv_last hv
  obtain ⟨l1, l2⟩ := valid_len c1
  obtain ⟨m, hm⟩ : ∃ m, m + 1 = s.conv.length := ⟨s.conv.length - 1, by omega⟩
  have hml : m < s.conv.length := by omega
  have e1 : IntKind.wrap .i64 ((s.conv.length : Int) - 1) = (m : Int) := wrap_i64 (by omega) (by omega)
  obtain ⟨k, hk⟩ : ∃ k : Nat, (lastK s.conv).2 = k := ⟨(lastK s.conv).2.toNat, by omega⟩
  obtain ⟨f, rfl⟩ : ∃ f : Nat, flow = f := ⟨flow.toNat, by omega⟩
  obtain ⟨n, hn⟩ : ∃ n : Nat, l.len = n := ⟨l.len.toNat, by omega⟩
  have hk' : s.conv[m].2 = k := by rw [← hk, lastK_get hm]
  obtain ⟨r, hr⟩ : ∃ r, r = lossF l s f := ⟨_, rfl⟩
  rw [← hr]
  rw [lossF, hk, hn] at hr
  simp only [Int.toNat_natCast] at hr
  unfold lossN at hr
  have g1 : f * f * n ≤ 1298074214633706907132624082305024 := sq_lt (by omega) (by omega)
  have g2 : f * f ≤ 1208925819614629174706176 := Nat.mul_le_mul (show f ≤ 1099511627776 by omega) (show f ≤ 1099511627776 by omega)
  have k1 := square_c hC f n (by omega) (by omega) (by omega) (by omega)
  obtain ⟨F, hF⟩ : ∃ F, F = f * f * n := ⟨_, rfl⟩
  obtain ⟨a, ha⟩ : ∃ a, a = F / 18446744073709551616 := ⟨_, rfl⟩
  obtain ⟨b, hb⟩ : ∃ b, b = F % 18446744073709551616 := ⟨_, rfl⟩
  rw [← hF, ← ha, ← hb] at k1
  have hab : a * 18446744073709551616 + b = F := by omega
  have k2 := fun (i : Nat) (hi : i ≤ 1073741824) => enough_c hC k i a b (by omega) hi (by omega)
  have hen : ∀ i, decide (a * 18446744073709551616 + b ≤ k * k * i) = enoughL k f n i := fun i => by rw [enoughL, hab, hF]
  simp only [hen] at k2
  clear g1 g2 hF ha hb hab hen
  refine start hC (nf := N163_backwater_loss) rfl rfl ?_
  simp [N163_backwater_loss, lnkC, secC]
  refine brB_of (fun c => ?_) (fun c => ?_) <;> simp at c <;> simp [c]
  · rw [if_pos (by omega)] at hr
    simp [hr]
  rw [if_neg (by omega)] at hr
  simp [e1, hml, knD, hk']
  refine brB_of (fun c5 => ?_) (fun c5 => ?_) <;> simp at c5 <;> simp [c5]
  · rw [if_pos (by omega)] at hr
    simp [hr]
  rw [if_neg (by omega)] at hr
  simp [hn]
  refine callW_of k1 (.inl rfl) ?_
  simp
  have k3 := k2 1073741824 (by omega)
  rw [show ((1073741824 : Nat) : Int) = 1073741824 from rfl] at k3
  refine callW_of k3 (.inl rfl) ?_
  cases h3 : enoughL k f n 1073741824
  · rw [if_neg (by simp [h3])] at hr
    simp [hr]
  rw [if_pos h3] at hr
  simp
  obtain ⟨L, hL⟩ : ∃ L, L = bis (enoughL k f n) 40 0 1073741824 := ⟨_, rfl⟩
  rw [← hL] at hr
  refine loop_of (Nat × Nat × Nat) (fun z => [(11, .fnx 167 [.adr (.r 10128) 0 0, .adr (.r 10144) 0 0, .adr (.r 10160) 0 0]), (12, .int .i64 z.2.1), (13, .int .i64 z.2.2), (10128, .blk 1 [[.int .i64 k]]), (10144, .blk 1 [[.int .u64 a]]), (10160, .blk 1 [[.int .u64 b]])])
    (fun z => z.2.1 ≤ z.2.2 ∧ z.2.2 ≤ 1073741824 ∧ z.2.2 - z.2.1 < 2 ^ z.1 ∧ bis (enoughL k f n) z.1 z.2.1 z.2.2 = L) (fun z => z.2.2 - z.2.1) (40, 0, 1073741824) ⟨by simp, by simp, by simp, by rw [hL]⟩ (by simp) ?_
  rintro ⟨fu, lo, hi⟩ ⟨i1, i2, i3, i4⟩
  simp only at i1 i2 i3 i4
  simp
  refine brB_of (fun c => ?_) (fun c => ?_) <;> simp at c <;> simp [c]
  · obtain ⟨f', _, j2, j3, j4⟩ := bis_step (p := enoughL k f n) c i3
    obtain ⟨sm, hsm⟩ : ∃ sm, sm = lo + hi := ⟨_, rfl⟩
    rw [← hsm] at j2 j3 j4
    obtain ⟨m, hm⟩ : ∃ m, m = sm / 2 := ⟨_, rfl⟩
    rw [← hm] at j2 j3 j4
    have e2 : IntKind.wrap .i64 ((lo : Int) + (hi : Int)) = (sm : Int) := wrap_i64 (by omega) (by omega)
    have e3 : Int.tdiv (sm : Int) 2 = (m : Int) := by rw [hm]; exact tdivN sm 2
    have e4 : IntKind.wrap .i64 (m : Int) = (m : Int) := wrap_i64 rfl (by omega)
    have e5 : IntKind.wrap .i64 ((m : Int) + 1) = ((m + 1 : Nat) : Int) := wrap_i64 (by omega) (by omega)
    rw [i4] at j4
    simp [e2, e3, e4]
    refine callW_of (k2 m (by omega)) (.inl rfl) ?_
    cases h4 : enoughL k f n m
    · rw [if_neg (by simp [h4])] at j4
      simp [e5]
      exact ⟨f', m + 1, hi, ⟨by omega, by omega, j3, j4.symm⟩, by omega, by omega, by omega⟩
    · rw [if_pos h4] at j4
      simp
      exact ⟨f', lo, m, ⟨by omega, by omega, j2, j4.symm⟩, by omega, by omega, by omega⟩
  · rw [bis_end _ _ _ _ c] at i4
    subst i4
    simp [hr]
end Go.Gv

set_option linter.unusedSimpArgs false
namespace Go.Gv
def mxI (a b : Int) : Int := if a < b then b else a
def fallF (l : Lnk) : Int := if 4194304 < l.up - l.down then 4194304 else l.up - l.down
def lowB (l : Lnk) (s : Sec) (flow level : Int) : Bool := decide (level < l.down + s.height) && (decide ((fullF s (fallF l) l.len).2 = 5) || (decide ((fullF s (fallF l) l.len).2 = 0) && decide (flow ≤ (fullF s (fallF l) l.len).1)))
def highF (l : Lnk) (s : Sec) (flow level : Int) : Int × Int :=
  if (lossF l s flow).2 = 0 then (if 1099511627776 < mxI (l.up + s.height) (level + (lossF l s flow).1) then (0, 5) else (mxI (l.up + s.height) (level + (lossF l s flow).1), 0)) else (0, (lossF l s flow).2)
def lowF (l : Lnk) (s : Sec) (flow level : Int) : Int × Int :=
  if (depthF s flow (fallF l) l.len).2 = 0 then (mxI (l.up + (depthF s flow (fallF l) l.len).1) level, 0) else (0, (depthF s flow (fallF l) l.len).2)
def aboveF (l : Lnk) (s : Sec) (flow level : Int) : Int × Int := if lowB l s flow level then lowF l s flow level else highF l s flow level
def upF (l : Lnk) (s : Sec) (flow level : Int) : Int × Int :=
  if pipeE l s = 0 then (if l.up < l.down then (0, 23) else if lowHigh flow 0 1099511627776 && lowHigh level (-4194304) 1099511627776 then aboveF l s flow level else (0, 2)) else (0, pipeE l s)
def lossU (l : Lnk) (s : Sec) (flow : Int) : Int × Int :=
  if pipeE l s = 0 then (if lowHigh flow 0 1099511627776 then lossF l s flow else (0, 2)) else (0, pipeE l s)
theorem lossN_range (k f n : Nat) : 0 ≤ (lossN k f n).1 ∧ (lossN k f n).1 ≤ 1073741824 := by
  unfold lossN
  have := bis_range (enoughL k f n) 40 0 1073741824 (by omega)
  split
  · simp
  split
  · simp
  split
  · simp only; omega
  · simp
theorem depthF_range {s : Sec} (hv : secValid s = true) (flow fall len : Int) : 0 ≤ (depthF s flow fall len).1 ∧ (depthF s flow fall len).1 ≤ s.height := by
  have hh : 1 ≤ s.height ∧ s.height ≤ 32768 := by
    simp only [secValid, Bool.and_eq_true, decide_eq_true_eq] at hv
    omega
  unfold depthF
  rw [if_pos hv]
  split
  · split
    · simp only; omega
    · simp only; omega
  · simp only; omega
theorem pipeE_zero {l : Lnk} {s : Sec} (h : pipeE l s = 0) : secValid s = true ∧ 1 ≤ l.len ∧ l.len ≤ 16777216 ∧ lvlOk l.up = true ∧ lvlOk l.down = true := by
  unfold pipeE at h
  split at h
  · rename_i h1
    rw [Bool.and_eq_true] at h1
    obtain ⟨h1, h2⟩ := h1
    split at h
    · rename_i hk
      simp only [linkOk, kindOk, hk, if_true, Bool.and_eq_true, lowHigh, decide_eq_true_eq] at h1
      obtain ⟨⟨⟨_, h5⟩, _⟩, ⟨h6, h7⟩, _⟩ := h1
      exact ⟨h2, h6.1, h6.2, h5, h7⟩
    · omega
  · omega
variable {C : CC} (hC : Closed prog C)
include hC
theorem above_c (l : Lnk) (s : Sec) (flow level : Int) (hv : secValid s = true) (hl : 1 ≤ l.len ∧ l.len ≤ 16777216) (hu : lvlOk l.up = true) (hd : lvlOk l.down = true) (hf : 0 ≤ flow ∧ flow ≤ 1099511627776) (hlv : -4194304 ≤ level ∧ level ≤ 1099511627776) :
    C 162 [.agg (lnkC l), .agg (secC s), .int .i64 flow, .int .i64 level] (.tup [.int .i64 (aboveF l s flow level).1, .int .i64 (aboveF l s flow level).2]) [] := by
  have b1 : -4194304 ≤ l.up ∧ l.up ≤ 4194304 := by simpa [lvlOk] using hu
  have b2 : -4194304 ≤ l.down ∧ l.down ≤ 4194304 := by simpa [lvlOk] using hd
  have hh : 1 ≤ s.height ∧ s.height ≤ 32768 := by
    simp only [secValid, Bool.and_eq_true, decide_eq_true_eq] at hv
    omega
  have r1 := depthF_range hv flow (fallF l) l.len
  have r2 : 0 ≤ (lossF l s flow).1 ∧ (lossF l s flow).1 ≤ 1073741824 := lossN_range _ _ _
  have k1 := Full_c hC s (fallF l) l.len
  have k2 := Depth_c hC s flow (fallF l) l.len
  have k3 := loss_c hC l s flow hv hl hf
  have efall : (if 4194304 < l.up - l.down then 4194304 else l.up - l.down) = fallF l := rfl
  obtain ⟨r, hr⟩ : ∃ r, r = aboveF l s flow level := ⟨_, rfl⟩
  rw [← hr]
  unfold aboveF lowB highF lowF at hr
  obtain ⟨f1, hf1⟩ : ∃ z, z = (fullF s (fallF l) l.len).1 := ⟨_, rfl⟩
  obtain ⟨f2, hf2⟩ : ∃ z, z = (fullF s (fallF l) l.len).2 := ⟨_, rfl⟩
  obtain ⟨d1, hd1⟩ : ∃ z, z = (depthF s flow (fallF l) l.len).1 := ⟨_, rfl⟩
  obtain ⟨d2, hd2⟩ : ∃ z, z = (depthF s flow (fallF l) l.len).2 := ⟨_, rfl⟩
  obtain ⟨x1, hx1⟩ : ∃ z, z = (lossF l s flow).1 := ⟨_, rfl⟩
  obtain ⟨x2, hx2⟩ : ∃ z, z = (lossF l s flow).2 := ⟨_, rfl⟩
  rw [← hf1, ← hf2] at k1 hr
  rw [← hd1, ← hd2] at k2 hr
  rw [← hx1, ← hx2] at k3 hr
  rw [← hd1] at r1
  rw [← hx1] at r2
  obtain ⟨fa, hfa⟩ : ∃ z, z = fallF l := ⟨_, rfl⟩
  rw [← hfa] at k1 k2 efall
  clear hf1 hf2 hd1 hd2 hx1 hx2 hfa
  simp only [secC, lnkC] at k1 k2 k3
  have w1 : IntKind.wrap .i64 (l.up - l.down) = l.up - l.down := wrap_i64 rfl (by omega)
  have w2 : IntKind.wrap .i64 (l.down + s.height) = l.down + s.height := wrap_i64 rfl (by omega)
  have w3 : IntKind.wrap .i64 (l.up + s.height) = l.up + s.height := wrap_i64 rfl (by omega)
  have w4 : IntKind.wrap .i64 (level + x1) = level + x1 := wrap_i64 rfl (by omega)
  have w5 : IntKind.wrap .i64 (l.up + d1) = l.up + d1 := wrap_i64 rfl (by omega)
  have m1 : ∀ a b : Int, (if a < b then b else a) = mxI a b := fun _ _ => rfl
  refine start hC (nf := N162_backwater_above) rfl rfl ?_
  simp [N162_backwater_above, secC, lnkC, w1, efall]
  refine callW_of k1 (.inl rfl) ?_
  simp [w2]
  refine brB_of (fun c1 => ?_) (fun c1 => ?_) <;> simp at c1 <;> simp [c1]
  · refine brB_of (fun c2 => ?_) (fun c2 => ?_) <;> simp at c2 <;> simp [c2]
    · rw [if_pos (by simp [c1, c2])] at hr
      refine callW_of k2 (.inl rfl) ?_
      simp
      refine brB_of (fun g => ?_) (fun g => ?_) <;> simp at g <;> simp [g]
      · rw [if_neg g] at hr
        simp [hr]
      · rw [if_pos g] at hr
        simp [w5, m1, hr]
    refine brB_of (fun c3 => ?_) (fun c3 => ?_) <;> simp at c3 <;> simp [c3]
    · refine brB_of (fun c4 => ?_) (fun c4 => ?_) <;> simp at c4 <;> simp [c4]
      · rw [if_pos (by simp [c1, c3, c4])] at hr
        refine callW_of k2 (.inl rfl) ?_
        simp
        refine brB_of (fun g => ?_) (fun g => ?_) <;> simp at g <;> simp [g]
        · rw [if_neg g] at hr
          simp [hr]
        · rw [if_pos g] at hr
          simp [w5, m1, hr]
      · rw [if_neg (by simp [c3, show ¬ flow ≤ f1 by omega])] at hr
        refine callW_of k3 (.inl rfl) ?_
        simp
        refine brB_of (fun g => ?_) (fun g => ?_) <;> simp at g <;> simp [g]
        · rw [if_neg g] at hr
          simp [hr]
        rw [if_pos g] at hr
        simp [w3, w4, m1]
        refine brB_of (fun g2 => ?_) (fun g2 => ?_) <;> simp at g2 <;> simp [g2]
        · rw [if_pos g2] at hr
          simp [hr]
        · rw [if_neg (by omega)] at hr
          simp [hr, w3, w4, m1]
    · rw [if_neg (by simp [c2, c3])] at hr
      refine callW_of k3 (.inl rfl) ?_
      simp
      refine brB_of (fun g => ?_) (fun g => ?_) <;> simp at g <;> simp [g]
      · rw [if_neg g] at hr
        simp [hr]
      rw [if_pos g] at hr
      simp [w3, w4, m1]
      refine brB_of (fun g2 => ?_) (fun g2 => ?_) <;> simp at g2 <;> simp [g2]
      · rw [if_pos g2] at hr
        simp [hr]
      · rw [if_neg (by omega)] at hr
        simp [hr, w3, w4, m1]
  · rw [if_neg (by simp [show ¬ level < l.down + s.height by omega])] at hr
    refine callW_of k3 (.inl rfl) ?_
    simp
    refine brB_of (fun g => ?_) (fun g => ?_) <;> simp at g <;> simp [g]
    · rw [if_neg g] at hr
      simp [hr]
    rw [if_pos g] at hr
    simp [w3, w4, m1]
    refine brB_of (fun g2 => ?_) (fun g2 => ?_) <;> simp at g2 <;> simp [g2]
    · rw [if_pos g2] at hr
      simp [hr]
    · rw [if_neg (by omega)] at hr
      simp [hr, w3, w4, m1]
theorem Up_c (l : Lnk) (s : Sec) (flow level : Int) (hc : l.curve.length < 2 ^ 62) : C 156 [.agg (lnkC l), .agg (secC s), .int .i64 flow, .int .i64 level] (.tup [.int .i64 (upF l s flow level).1, .int .i64 (upF l s flow level).2]) [] := by
  have k1 := pipe_c hC l s hc
  obtain ⟨r, hr⟩ : ∃ r, r = upF l s flow level := ⟨_, rfl⟩
  rw [← hr]
  unfold upF at hr
  have ka := fun h1 h2 h3 h4 h5 => above_c hC l s flow level h1 h2 h3 h4 h5
  have hz := @pipeE_zero l s
  obtain ⟨e, he⟩ : ∃ e, e = pipeE l s := ⟨_, rfl⟩
  rw [← he] at k1 hr hz
  simp only [secC, lnkC] at k1 ka
  refine start hC (nf := N156_backwater_Up) rfl rfl ?_
  simp [N156_backwater_Up, secC, lnkC]
  refine callW_of k1 (.inl rfl) ?_
  simp
  refine brB_of (fun g => ?_) (fun g => ?_) <;> simp at g <;> simp [g]
  · rw [if_neg g] at hr
    simp [hr]
  rw [if_pos g] at hr
  obtain ⟨z1, z2, z3, z4, z5⟩ := hz g
  refine brB_of (fun g1 => ?_) (fun g1 => ?_) <;> simp at g1 <;> simp [g1]
  · rw [if_pos g1] at hr
    simp [hr]
  rw [if_neg (by omega)] at hr
  refine callW_of (withinB_c hC flow 0 1099511627776) (.inl rfl) ?_
  cases g2 : lowHigh flow 0 1099511627776
  · rw [if_neg (by simp [g2])] at hr
    simp [hr]
  simp
  refine callW_of (withinB_c hC level (-4194304) 1099511627776) (.inl rfl) ?_
  cases g3 : lowHigh level (-4194304) 1099511627776
  · rw [if_neg (by simp [g3])] at hr
    simp [hr]
  rw [if_pos (by simp [g2, g3])] at hr
  simp
  simp only [lowHigh, Bool.and_eq_true, decide_eq_true_eq] at g2 g3
  refine callW_of (ka z1 ⟨z2, z3⟩ z4 z5 g2 g3) (.inl rfl) ?_
  simp [hr]
theorem LossU_c (l : Lnk) (s : Sec) (flow : Int) (hc : l.curve.length < 2 ^ 62) : C 157 [.agg (lnkC l), .agg (secC s), .int .i64 flow] (.tup [.int .i64 (lossU l s flow).1, .int .i64 (lossU l s flow).2]) [] := by
  have k1 := pipe_c hC l s hc
  obtain ⟨r, hr⟩ : ∃ r, r = lossU l s flow := ⟨_, rfl⟩
  rw [← hr]
  unfold lossU at hr
  have ka := fun h1 h2 h3 => loss_c hC l s flow h1 h2 h3
  have hz := @pipeE_zero l s
  obtain ⟨e, he⟩ : ∃ e, e = pipeE l s := ⟨_, rfl⟩
  rw [← he] at k1 hr hz
  simp only [secC, lnkC] at k1 ka
  refine start hC (nf := N157_backwater_Loss) rfl rfl ?_
  simp [N157_backwater_Loss, secC, lnkC]
  refine callW_of k1 (.inl rfl) ?_
  simp
  refine brB_of (fun g => ?_) (fun g => ?_) <;> simp at g <;> simp [g]
  · rw [if_neg g] at hr
    simp [hr]
  rw [if_pos g] at hr
  obtain ⟨z1, z2, z3, z4, z5⟩ := hz g
  refine callW_of (withinB_c hC flow 0 1099511627776) (.inl rfl) ?_
  cases g2 : lowHigh flow 0 1099511627776
  · rw [if_neg (by simp [g2])] at hr
    simp [hr]
  rw [if_pos g2] at hr
  simp
  simp only [lowHigh, Bool.and_eq_true, decide_eq_true_eq] at g2
  refine callW_of (ka z1 ⟨z2, z3⟩ g2) (.inl rfl) ?_
  simp [hr]
end Go.Gv

set_option linter.unusedSimpArgs false
namespace Go.Gv
theorem mxI_ge (a b : Int) : a ≤ mxI a b ∧ b ≤ mxI a b := by unfold mxI; split <;> omega
theorem mxI_mono {a b c d : Int} (h1 : a ≤ c) (h2 : b ≤ d) : mxI a b ≤ mxI c d := by
  unfold mxI; split <;> split <;> omega
theorem enoughL_mono {k f g n i : Nat} (h : f ≤ g) (he : enoughL k g n i = true) : enoughL k f n i = true := by
  simp only [enoughL, decide_eq_true_eq] at he ⊢
  exact Nat.le_trans (Nat.mul_le_mul_right _ (Nat.mul_le_mul h h)) he
theorem lossN_mono {k f g n : Nat} (h : f ≤ g) (h1 : (lossN k f n).2 = 0) (h2 : (lossN k g n).2 = 0) : (lossN k f n).1 ≤ (lossN k g n).1 := by
  have hr := lossN_range k g n
  by_cases f0 : f = 0
  · have : lossN k f n = (0, 0) := by simp [lossN, f0]
    rw [this]; exact hr.1
  · have g0 : ¬ g = 0 := by omega
    unfold lossN at h1 h2 ⊢
    rw [if_neg f0] at h1 ⊢
    rw [if_neg g0] at h2 ⊢
    by_cases k0 : k = 0
    · rw [if_pos k0] at h1; simp at h1
    · rw [if_neg k0] at h1 h2 ⊢
      rw [if_neg k0]
      by_cases e1 : enoughL k f n 1073741824 = true
      · rw [if_pos e1]
        by_cases e2 : enoughL k g n 1073741824 = true
        · rw [if_pos e2]
          have := bis_mono (p := enoughL k f n) (q := enoughL k g n) (fun i hi => enoughL_mono h hi) 40 0 1073741824 (by omega)
          simp only
          omega
        · rw [if_neg e2] at h2; simp at h2
      · rw [if_neg e1] at h1; simp at h1
theorem leastD_mono {s : Sec} {f g fall len : Int} (h : f ≤ g) : leastD s f fall len ≤ leastD s g fall len := by
  refine bis_mono (fun n hn => ?_) _ _ _ (by omega)
  simp only [enoughD, decide_eq_true_eq] at hn ⊢
  omega
theorem depthF_ok {s : Sec} {f fall len : Int} (h : (depthF s f fall len).2 = 0) : secValid s = true ∧ 0 ≤ f ∧ (depthF s f fall len).1 = leastD s f fall len ∧ leastD s f fall len ≤ s.height.toNat := by
  unfold depthF at h ⊢
  split at h
  · rename_i hv
    rw [if_pos hv]
    split at h
    · rename_i hc
      rw [if_pos hc]
      split at h
      · simp at h
      · rename_i hl
        rw [if_neg hl]
        exact ⟨hv, hc.1, rfl, by omega⟩
    · simp at h
  · simp at h
/-- The conditions of a level. -/
theorem lowB_flow {l : Lnk} {s : Sec} {f g level : Int} (h : f ≤ g) (hb : lowB l s g level = true) : lowB l s f level = true := by
  simp only [lowB, Bool.and_eq_true, Bool.or_eq_true, decide_eq_true_eq] at hb ⊢
  refine ⟨hb.1, ?_⟩
  rcases hb.2 with h1 | ⟨h1, h2⟩
  · exact .inl h1
  · exact .inr ⟨h1, by omega⟩
theorem lowB_level {l : Lnk} {s : Sec} {f a b : Int} (h : a ≤ b) (hb : lowB l s f b = true) : lowB l s f a = true := by
  simp only [lowB, Bool.and_eq_true, decide_eq_true_eq] at hb ⊢
  exact ⟨by omega, hb.2⟩
theorem aboveF_err {l : Lnk} {s : Sec} {f v : Int} (h : (aboveF l s f v).2 ≠ 0) : (aboveF l s f v).1 = 0 := by
  unfold aboveF lowF highF at h ⊢
  split
  · rw [if_pos (by assumption)] at h
    split
    · rw [if_pos (by assumption)] at h; simp at h
    · rfl
  · rw [if_neg (by assumption)] at h
    split
    · rw [if_pos (by assumption)] at h
      split
      · rfl
      · rw [if_neg (by assumption)] at h; simp at h
    · rfl
theorem highF_ok {l : Lnk} {s : Sec} {f v : Int} (h : (highF l s f v).2 = 0) : (lossF l s f).2 = 0 ∧ (highF l s f v).1 = mxI (l.up + s.height) (v + (lossF l s f).1) := by
  unfold highF at h ⊢
  split at h
  · rename_i h1
    rw [if_pos h1]
    split at h
    · simp at h
    · rename_i h2
      rw [if_neg h2]
      exact ⟨h1, rfl⟩
  · rename_i h1; exact absurd h h1
theorem lowF_ok {l : Lnk} {s : Sec} {f v : Int} (h : (lowF l s f v).2 = 0) : (depthF s f (fallF l) l.len).2 = 0 ∧ (lowF l s f v).1 = mxI (l.up + (depthF s f (fallF l) l.len).1) v := by
  unfold lowF at h ⊢
  split at h
  · rename_i h1
    rw [if_pos h1]
    exact ⟨h1, rfl⟩
  · rename_i h1; exact absurd h h1
theorem low_le_high {l : Lnk} {s : Sec} {f g v w : Int} (hv : v ≤ w) (h1 : (lowF l s f v).2 = 0) (h2 : (highF l s g w).2 = 0) : (lowF l s f v).1 ≤ (highF l s g w).1 := by
  obtain ⟨a1, a2⟩ := lowF_ok h1
  obtain ⟨b1, b2⟩ := highF_ok h2
  obtain ⟨c1, c2, c3, c4⟩ := depthF_ok a1
  have hh : 1 ≤ s.height := by
    simp only [secValid, Bool.and_eq_true, decide_eq_true_eq] at c1
    omega
  have hr : 0 ≤ (lossF l s g).1 := (lossN_range _ _ _).1
  rw [a2, b2, c3]
  exact mxI_mono (by omega) (by omega)
theorem above_low {l : Lnk} {s : Sec} {f v : Int} (b : lowB l s f v = true) : aboveF l s f v = lowF l s f v := by unfold aboveF; rw [if_pos b]
theorem above_high {l : Lnk} {s : Sec} {f v : Int} (b : ¬ lowB l s f v = true) : aboveF l s f v = highF l s f v := by unfold aboveF; rw [if_neg b]
theorem aboveF_flow {l : Lnk} {s : Sec} {f g v : Int} (h : f ≤ g) (h1 : (aboveF l s f v).2 = 0) (h2 : (aboveF l s g v).2 = 0) : (aboveF l s f v).1 ≤ (aboveF l s g v).1 := by
  by_cases b2 : lowB l s g v = true
  · have b1 := lowB_flow h b2
    rw [above_low b2] at h2 ⊢
    rw [above_low b1] at h1 ⊢
    obtain ⟨a1, a2⟩ := lowF_ok h1
    obtain ⟨c1, c2⟩ := lowF_ok h2
    obtain ⟨_, _, d3, _⟩ := depthF_ok a1
    obtain ⟨_, _, e3, _⟩ := depthF_ok c1
    rw [a2, c2, d3, e3]
    have := leastD_mono (s := s) (fall := fallF l) (len := l.len) h
    exact mxI_mono (by omega) (Int.le_refl _)
  · rw [above_high b2] at h2 ⊢
    by_cases b1 : lowB l s f v = true
    · rw [above_low b1] at h1 ⊢
      exact low_le_high (Int.le_refl _) h1 h2
    · rw [above_high b1] at h1 ⊢
      obtain ⟨a1, a2⟩ := highF_ok h1
      obtain ⟨c1, c2⟩ := highF_ok h2
      rw [a2, c2]
      have hl : (lossF l s f).1 ≤ (lossF l s g).1 := lossN_mono (by omega) a1 c1
      exact mxI_mono (Int.le_refl _) (by omega)
theorem aboveF_level {l : Lnk} {s : Sec} {f v w : Int} (h : v ≤ w) (h1 : (aboveF l s f v).2 = 0) (h2 : (aboveF l s f w).2 = 0) : (aboveF l s f v).1 ≤ (aboveF l s f w).1 := by
  by_cases b2 : lowB l s f w = true
  · have b1 := lowB_level h b2
    rw [above_low b2] at h2 ⊢
    rw [above_low b1] at h1 ⊢
    obtain ⟨a1, a2⟩ := lowF_ok h1
    obtain ⟨c1, c2⟩ := lowF_ok h2
    rw [a2, c2]
    exact mxI_mono (Int.le_refl _) h
  · rw [above_high b2] at h2 ⊢
    by_cases b1 : lowB l s f v = true
    · rw [above_low b1] at h1 ⊢
      exact low_le_high h h1 h2
    · rw [above_high b1] at h1 ⊢
      obtain ⟨a1, a2⟩ := highF_ok h1
      obtain ⟨c1, c2⟩ := highF_ok h2
      rw [a2, c2]
      exact mxI_mono (Int.le_refl _) (by omega)
theorem aboveF_ge {l : Lnk} {s : Sec} {f v : Int} (hs : secValid s = true) (h : (aboveF l s f v).2 = 0) : v ≤ (aboveF l s f v).1 ∧ l.up ≤ (aboveF l s f v).1 := by
  have hh : 1 ≤ s.height := by
    simp only [secValid, Bool.and_eq_true, decide_eq_true_eq] at hs
    omega
  by_cases b : lowB l s f v = true
  · rw [above_low b] at h ⊢
    obtain ⟨a1, a2⟩ := lowF_ok h
    obtain ⟨c1, _, c3, _⟩ := depthF_ok a1
    rw [a2, c3]
    have hm := mxI_ge (l.up + (leastD s f (fallF l) l.len : Int)) v
    omega
  · rw [above_high b] at h ⊢
    obtain ⟨a1, a2⟩ := highF_ok h
    rw [a2]
    have hr : 0 ≤ (lossF l s f).1 := (lossN_range _ _ _).1
    have hm := mxI_ge (l.up + s.height) (v + (lossF l s f).1)
    omega
theorem upF_err {l : Lnk} {s : Sec} {f v : Int} (h : (upF l s f v).2 ≠ 0) : (upF l s f v).1 = 0 := by
  unfold upF at h ⊢
  split
  · rw [if_pos (by assumption)] at h
    split
    · rfl
    · rw [if_neg (by assumption)] at h
      split
      · rw [if_pos (by assumption)] at h
        exact aboveF_err h
      · rfl
  · rfl
theorem upF_ok {l : Lnk} {s : Sec} {f v : Int} (h : (upF l s f v).2 = 0) : secValid s = true ∧ upF l s f v = aboveF l s f v := by
  unfold upF at h ⊢
  split at h
  · rename_i h1
    rw [if_pos h1]
    split at h
    · simp at h
    · rename_i h2
      rw [if_neg h2]
      split at h
      · rename_i h3
        rw [if_pos h3]
        exact ⟨(pipeE_zero h1).1, rfl⟩
      · simp at h
  · rename_i h1; exact absurd h h1
theorem lossU_mono {l : Lnk} {s : Sec} {f g : Int} (h : f ≤ g) (h1 : (lossU l s f).2 = 0) (h2 : (lossU l s g).2 = 0) : (lossU l s f).1 ≤ (lossU l s g).1 ∧ 0 ≤ (lossU l s f).1 := by
  have ok : ∀ z, (lossU l s z).2 = 0 → lossU l s z = lossF l s z := fun z hz => by
    unfold lossU at hz ⊢
    split at hz
    · rename_i h1
      rw [if_pos h1]
      split at hz
      · rename_i h2; rw [if_pos h2]
      · simp at hz
    · rename_i h1; exact absurd hz h1
  have e1 := ok f h1
  have e2 := ok g h2
  rw [e1] at h1 ⊢
  rw [e2] at h2 ⊢
  exact ⟨lossN_mono (by omega) h1 h2, (lossN_range _ _ _).1⟩
end Go.Gv

set_option linter.unusedSimpArgs false
namespace Go.Gv
def exL : Lnk := { name := [112], src := [97], dst := [98], kind := 1, len := 10000, up := 1000, down := 900, sect := [115], width := 0, height := 0, curveN := true, curve := [] }
def exS : Sec := { name := [115], height := 300, price := 0, areaN := false, area := [(0, 0), (300, 70000)], convN := false, conv := [(0, 0), (300, 200000)] }
def longL (l : Lnk) : Bool := decide (20 < l.curve.length) || decide (60 < l.name.length) || decide (60 < l.src.length) || decide (60 < l.dst.length) || decide (60 < l.sect.length)
def manyS (s : Sec) : Bool := decide (20 < s.area.length) || decide (20 < s.conv.length) || decide (60 < s.name.length)
theorem ex_loss : lossU exL exS 10000 = (25, 0) := by decide +kernel
theorem ex_up : upF exL exS 10000 1250 = (1300, 0) := by decide +kernel
variable {C : CC} (hC : Closed prog C)
include hC
theorem exPipe_c : C 158 [] (.tup [.agg (lnkC exL), .agg (secC exS)]) [] := by
  refine start hC (nf := N158_law31_pipe) rfl rfl ?_
  simp [N158_law31_pipe, lnkC, exL, exS, secC, knD]
  rfl
theorem awake31_c : C 153 [] (.bool true) [] := by
  have k1 := exPipe_c hC
  have k2 := LossU_c hC exL exS 10000 (by decide)
  have k3 := Up_c hC exL exS 10000 1250 (by decide)
  rw [ex_loss] at k2
  rw [ex_up] at k3
  simp only [lnkC, secC] at k1 k2 k3
  refine start hC (nf := N153_law31_awake) rfl rfl ?_
  simp [N153_law31_awake]
  refine callW_of k1 (.inr rfl) ?_
  simp
  refine callW_of k2 (.inl rfl) ?_
  simp
  refine callW_of k3 (.inl rfl) ?_
  simp
theorem long31_c (l : Lnk) : C 154 [.agg (lnkC l)] (.bool (longL l)) [] := by
  refine start hC (nf := N154_law31_long) rfl rfl ?_
  simp [N154_law31_long, lnkC, longL]
  refine brB_of (fun h0 => ?_) (fun h0 => ?_) <;> simp at h0
  · simp [show 20 < l.curve.length by omega]
  simp [show ¬ 20 < l.curve.length by omega]
  refine brB_of (fun h1 => ?_) (fun h1 => ?_) <;> simp at h1
  · simp [show 60 < l.name.length by omega]
  simp [show ¬ 60 < l.name.length by omega]
  refine brB_of (fun h2 => ?_) (fun h2 => ?_) <;> simp at h2
  · simp [show 60 < l.src.length by omega]
  simp [show ¬ 60 < l.src.length by omega]
  refine brB_of (fun h3 => ?_) (fun h3 => ?_) <;> simp at h3
  · simp [show 60 < l.dst.length by omega]
  simp [show ¬ 60 < l.dst.length by omega]
  rw [Bool.eq_iff_iff]
  simp
  omega
theorem many31_c (s : Sec) : C 155 [.sl [secC s]] (.bool (manyS s)) [] := by
  have k0 : ∀ x ∈ [s], C 159 (.agg (secC x) :: []) (.bool (manyS x)) [] := fun x _ => by
    refine start hC (nf := N159_law31_many_1) rfl rfl ?_
    simp [N159_law31_many_1, secC, manyS]
    refine brB_of (fun h0 => ?_) (fun h0 => ?_) <;> simp at h0
    · simp [show 20 < x.area.length by omega]
    simp [show ¬ 20 < x.area.length by omega]
    refine brB_of (fun h1 => ?_) (fun h1 => ?_) <;> simp at h1
    · simp [show 20 < x.conv.length by omega]
    simp [show ¬ 20 < x.conv.length by omega]
    rw [Bool.eq_iff_iff]
    simp
    omega
  have k1 := hasSec_c hC (b := false) (xs := [s]) (g := 159) (cs := []) manyS (by simp) k0
  refine start hC (nf := N155_law31_many) rfl rfl ?_
  simp [N155_law31_many]
  refine callW_of k1 (.inl rfl) ?_
  simp
end Go.Gv

set_option linter.unusedSimpArgs false
namespace Go.Gv
open Go.Lib

variable {C : CC} (hC : Closed prog C)
include hC
theorem rSize_c (n : Nat) (h : n < 9223372036854775808) : C 86 [.int .i64 n] (.int .u64 (n : Int)) [] := by
  refine start hC (nf := N86_ref03_Size) rfl rfl ?_
  simp [N86_ref03_Size, wrapN n (by omega)]
  refine brB_of (fun h1 => ?_) (fun h1 => ?_) <;> simp at h1 <;> simp [h1, wrapN n (by omega)]
  omega
theorem rLess_c (a b c d : Nat) : C 87 [.agg [.int .u64 a, .int .u64 b], .agg [.int .u64 c, .int .u64 d]] (.bool (decide (a < c ∨ (a = c ∧ b < d)))) [] := by
  refine start hC (nf := N87_ref03_Less) rfl rfl ?_
  simp [N87_ref03_Less]
  refine brB_of (fun h => ?_) (fun h => ?_) <;> simp at h <;> simp [h]
  have h3 : ¬ a < c := by omega
  refine brB_of (fun h2 => ?_) (fun h2 => ?_) <;> simp at h2 <;> simp [h2, h3]
  · have h4 : a = c := by omega
    simp [h4]
  · omega
theorem rMinus_c (a b c d p q : Nat) (ha : a < 18446744073709551616) (hb : b < 18446744073709551616) (hd : d < 18446744073709551616) (hq : q < 18446744073709551616) (h : p * 18446744073709551616 + q + (c * 18446744073709551616 + d) = a * 18446744073709551616 + b) : C 95 [.agg [.int .u64 a, .int .u64 b], .agg [.int .u64 c, .int .u64 d]] (.agg [.int .u64 p, .int .u64 q]) [] := by
  refine start hC (nf := N95_ref03_Minus) rfl rfl ?_
  simp [N95_ref03_Minus]
  have e3 : IntKind.u64.wrap ((b : Int) - (d : Int)) = (q : Int) := uw (by omega) hq
  refine brB_of (fun h1 => ?_) (fun h1 => ?_) <;> simp at h1 <;> simp [h1, e3]
  · have e1 : IntKind.u64.wrap ((a : Int) - (c : Int)) = ((p + 1 : Nat) : Int) := uw (by omega) (by omega)
    rw [e1]
    exact uw (by omega) (by omega)
  · exact uw (by omega) (by omega)
theorem rShift_c (a b w t p q : Nat) (hb : b < 18446744073709551616) (hw : w ≤ 1) (hp : p < 18446744073709551616) (hq : q < 18446744073709551616) (ht : (a * 18446744073709551616 + b) * 2 + w = (t * 18446744073709551616 + p) * 18446744073709551616 + q) : C 94 [.agg [.int .u64 a, .int .u64 b], .int .u64 w] (.agg [.int .u64 p, .int .u64 q]) [] := by
  refine start hC (nf := N94_ref03_Shift) rfl rfl ?_
  simp [N94_ref03_Shift]
  obtain ⟨a2, ha2⟩ : ∃ a2, a2 = a * 2 % 18446744073709551616 := ⟨_, rfl⟩
  obtain ⟨b2, hb2⟩ : ∃ b2, b2 = b * 2 % 18446744073709551616 := ⟨_, rfl⟩
  obtain ⟨c, hc⟩ : ∃ c, c = b / 9223372036854775808 := ⟨_, rfl⟩
  rw [shr63, shl1 a a2 ha2, shl1 b b2 hb2, ← hc]
  exact ⟨uw (by omega) hp, uw (by omega) hq⟩
theorem rMul_c (x y : Nat) (hx : x < 18446744073709551616) (hy : y < 18446744073709551616) : C 85 [.int .u64 x, .int .u64 y] (wideD (x * y)) [] := by
  refine start hC (nf := N85_ref03_Mul) rfl rfl ?_
  obtain ⟨bd, bt, bw, hhi⟩ := Lib.mul64_hi x y hx hy
  have ba := Lib.half_mul_le (a := x / 4294967296) (b := y / 4294967296) (by omega) (by omega)
  have bb := Lib.half_mul_le (a := x / 4294967296) (b := y % 4294967296) (by omega) (by omega)
  have bc := Lib.half_mul_le (a := x % 4294967296) (b := y / 4294967296) (by omega) (by omega)
  have hxy : x * y = x / 4294967296 * (y / 4294967296) * 18446744073709551616 + (x / 4294967296 * (y % 4294967296) + x % 4294967296 * (y / 4294967296)) * 4294967296 + x % 4294967296 * (y % 4294967296) := by
    have e1 : x = x / 4294967296 * 4294967296 + x % 4294967296 := by omega
    have e2 : y = y / 4294967296 * 4294967296 + y % 4294967296 := by omega
    generalize x / 4294967296 = ah at *
    generalize x % 4294967296 = al at *
    generalize y / 4294967296 = bh at *
    generalize y % 4294967296 = bl at *
    rw [e1, e2, Nat.add_mul, Nat.mul_add, Nat.mul_add, Nat.add_mul]
    rw [show ah * 4294967296 * (bh * 4294967296) = ah * bh * 18446744073709551616 by rw [Nat.mul_assoc, Nat.mul_left_comm 4294967296, ← Nat.mul_assoc]]
    rw [show ah * 4294967296 * bl = ah * bl * 4294967296 by rw [Nat.mul_right_comm], show al * (bh * 4294967296) = al * bh * 4294967296 by rw [Nat.mul_assoc]]
    omega
  obtain ⟨P, hP⟩ : ∃ P, P = x / 4294967296 * (y / 4294967296) := ⟨_, rfl⟩
  obtain ⟨Q, hQ⟩ : ∃ Q, Q = x / 4294967296 * (y % 4294967296) := ⟨_, rfl⟩
  obtain ⟨R, hR⟩ : ∃ R, R = x % 4294967296 * (y / 4294967296) := ⟨_, rfl⟩
  obtain ⟨L, hL⟩ : ∃ L, L = x % 4294967296 * (y % 4294967296) := ⟨_, rfl⟩
  obtain ⟨Z, hZ⟩ : ∃ Z, Z = x * y := ⟨_, rfl⟩
  rw [← hP, ← hQ, ← hR, ← hL, ← hZ] at hxy
  rw [← hP] at ba
  rw [← hQ] at bb
  rw [← hR] at bc
  rw [← hL] at bd
  obtain ⟨zh, hzh⟩ : ∃ zh, zh = Z / 18446744073709551616 := ⟨_, rfl⟩
  obtain ⟨zl, hzl⟩ : ∃ zl, zl = Z % 18446744073709551616 := ⟨_, rfl⟩
  rw [← hZ, wideD, ← hzh, ← hzl]
  simp [N85_ref03_Mul]
  simp only [maskN x hx, maskN y hy, shr32, mulN, ← hP, ← hQ, ← hR, ← hL, wrapN L bd, wrapN P (by omega), wrapN Q (by omega), wrapN R (by omega), addN]
  obtain ⟨M, hM⟩ : ∃ M, M = Q + L / 4294967296 := ⟨_, rfl⟩
  have hM1 : M < 18446744073709551616 := by omega
  rw [← hM, wrapN M hM1, shr32, maskN M hM1, maskN L bd, addN]
  obtain ⟨O, hO⟩ : ∃ O, O = R + M % 4294967296 := ⟨_, rfl⟩
  have hO1 : O < 18446744073709551616 := by omega
  obtain ⟨O2, hO2⟩ : ∃ O2, O2 = O * 4294967296 % 18446744073709551616 := ⟨_, rfl⟩
  simp only [addN R, ← hO, wrapN O hO1, shr32, shl32 O O2 hO2]
  rw [wrapN (P + M / 4294967296) (by omega), addN, addN, wrapN _ (by omega), wrapN _ (by omega)]
  clear hP hQ hR hL hZ bt bw hhi
  exact ⟨by omega, by omega⟩
end Go.Gv

set_option linter.unusedSimpArgs false
namespace Go.Gv

/-- A quotient, bit by bit: a is what is left of x, shifted. -/
def DvS (x b i a q r : Nat) : Prop := i ≤ 128 ∧ r < b ∧ ∃ c, a = c * 2 ^ i ∧ c < 2 ^ (128 - i) ∧ (q * b + r) * 2 ^ (128 - i) + c = x
theorem DvS.step {x b i a q r : Nat} (h : DvS x b i a q r) (hi : i < 128) (hb : 0 < b) :
    a < 340282366920938463463374607431768211456 ∧ 2 * q ≤ x ∧
    ∀ w r' a', 2 * r + a / 170141183460469231731687303715884105728 = w * b + r' → r' < b → a' = 2 * a % 340282366920938463463374607431768211456 → DvS x b (i + 1) a' (2 * q + w) r' ∧ 2 * q + w ≤ x := by
  obtain ⟨_, hr, c, h1, h2, h3⟩ := h
  obtain ⟨m, hm⟩ : ∃ m, m + 1 = 128 - i := ⟨127 - i, by omega⟩
  have hm2 : m = 128 - (i + 1) := by omega
  rw [← hm, Nat.pow_succ] at h2 h3
  obtain ⟨V, hV⟩ : ∃ V, V = 2 ^ m := ⟨_, rfl⟩
  obtain ⟨W, hW⟩ : ∃ W, W = 2 ^ i := ⟨_, rfl⟩
  have hVW : V * W = 170141183460469231731687303715884105728 := by
    rw [hV, hW, ← Nat.pow_add, show m + i = 127 by omega]
  have hVp : 0 < V := by rw [hV]; exact Nat.two_pow_pos m
  rw [← hV] at h2 h3
  rw [← hW] at h1
  obtain ⟨t, ht⟩ : ∃ t, t = c / V := ⟨_, rfl⟩
  obtain ⟨d, hd⟩ : ∃ d, d = c % V := ⟨_, rfl⟩
  have hc : c = t * V + d := by rw [ht, hd, Nat.mul_comm]; exact (Nat.div_add_mod c V).symm
  have hdV : d < V := by rw [hd]; exact Nat.mod_lt _ hVp
  have ht1 : t ≤ 1 := by
    have : t < 2 := by rw [ht, Nat.div_lt_iff_lt_mul hVp]; omega
    omega
  have ha : a = t * 170141183460469231731687303715884105728 + d * W := by
    rw [h1, hc, Nat.add_mul, Nat.mul_assoc, hVW]
  have hdW : d * W < 170141183460469231731687303715884105728 := by
    have : (d + 1) * W ≤ V * W := Nat.mul_le_mul_right _ hdV
    rw [hVW, Nat.add_mul] at this
    have hWp : 0 < W := by rw [hW]; exact Nat.two_pow_pos i
    omega
  have hbit : a / 170141183460469231731687303715884105728 = t := by
    rw [ha]; generalize d * W = z at *; omega
  have fin : ∀ w r', 2 * r + t = w * b + r' → ((2 * q + w) * b + r') * V + d = x := fun w r' e => by
    have e1 : (2 * q + w) * b + r' = 2 * (q * b + r) + t := by
      rw [Nat.add_mul, Nat.mul_assoc]
      generalize q * b = z at *
      generalize w * b = z' at *
      omega
    rw [e1, ← h3, hc, Nat.add_mul, Nat.mul_comm V 2, ← Nat.mul_assoc, Nat.mul_comm (q * b + r) 2]
    omega
  have big : ∀ w r', 2 * r + t = w * b + r' → 2 * q + w ≤ x := fun w r' e => by
    have e1 := fin w r' e
    have e2 : 2 * q + w ≤ (2 * q + w) * b := Nat.le_mul_of_pos_right _ hb
    have e3 : (2 * q + w) * b + r' ≤ ((2 * q + w) * b + r') * V := Nat.le_mul_of_pos_right _ hVp
    omega
  refine ⟨?_, ?_, ?_⟩
  · rw [ha]; generalize d * W = z at *; omega
  · exact Nat.le_trans (Nat.le_add_right _ _) (big _ _ (Nat.div_add_mod' (2 * r + t) b).symm)
  · intro w r' a' e hr' ha'
    rw [hbit] at e
    refine ⟨⟨by omega, hr', d, ?_, ?_, ?_⟩, big w r' e⟩
    · rw [ha', ha, Nat.pow_succ, ← hW, Nat.mul_comm W 2, Nat.mul_left_comm]
      generalize d * W = z at *
      omega
    · rw [← hm2, ← hV]; exact hdV
    · rw [← hm2, ← hV]; exact fin w r' e
theorem DvS.last {x b a q r : Nat} (h : DvS x b 128 a q r) : q = x / b ∧ r = x % b := by
  obtain ⟨_, hr, c, h1, h2, h3⟩ := h
  simp at h2 h3
  subst h2
  simp at h3
  subst h3
  have hb : 0 < b := by omega
  rw [Nat.mul_comm, Nat.mul_add_div hb, Nat.div_eq_of_lt hr, Nat.mul_add_mod, Nat.mod_eq_of_lt hr]
  exact ⟨rfl, rfl⟩

variable {C : CC} (hC : Closed prog C)
include hC
theorem rMade_c (a b : Nat) : C 84 [.agg [.int .u64 a, .int .u64 b], .bool false] (.agg [.int .u64 a, .int .u64 b, .bool false]) [] := by
  refine start hC (nf := N84_ref03_Made) rfl rfl ?_
  simp [N84_ref03_Made]
  exact indW_of (by decide +kernel)
theorem rOfInt_c (n : Nat) (h : n < 9223372036854775808) : C 68 [.int .i64 n] (.agg [.int .u64 0, .int .u64 n, .bool false]) [] := by
  refine start hC (nf := N68_ref03_OfInt) rfl rfl ?_
  simp [N68_ref03_OfInt]
  refine callW_of (rSize_c hC n h) (.inl rfl) ?_
  have hm := rMade_c hC 0 n
  have h0 : ¬ (n : Int) < 0 := by omega
  simp [h0]
  refine callW_of hm (.inl rfl) ?_
  simp
theorem rTimes_c (x y : Nat) (hx : x < 9223372036854775808) (hy : y < 9223372036854775808) : C 67 [.int .i64 x, .int .i64 y] (.agg [.int .u64 ((x * y / 18446744073709551616 : Nat) : Int), .int .u64 ((x * y % 18446744073709551616 : Nat) : Int), .bool false]) [] := by
  refine start hC (nf := N67_ref03_Times) rfl rfl ?_
  have h0 : ¬ (x : Int) < 0 := by omega
  have h1 : ¬ (y : Int) < 0 := by omega
  have hm := rMul_c hC x y (by omega) (by omega)
  rw [wideD] at hm
  obtain ⟨zh, hzh⟩ : ∃ zh, zh = x * y / 18446744073709551616 := ⟨_, rfl⟩
  obtain ⟨zl, hzl⟩ : ∃ zl, zl = x * y % 18446744073709551616 := ⟨_, rfl⟩
  rw [← hzh, ← hzl] at hm ⊢
  simp [N67_ref03_Times]
  refine callW_of (rSize_c hC x hx) (.inl rfl) ?_
  simp
  refine callW_of (rSize_c hC y hy) (.inl rfl) ?_
  simp
  refine callW_of hm (.inl rfl) ?_
  simp [h0, h1]
  refine callW_of (rMade_c hC zh zl) (.inl rfl) ?_
  simp
set_option maxHeartbeats 2000000 in
theorem rDiv_c (x b : Nat) (hx : x < 340282366920938463463374607431768211456) (hb0 : 0 < b) (hb : b < 9223372036854775808) : C 82 [.agg [.int .u64 ((x / 18446744073709551616 : Nat) : Int), .int .u64 ((x % 18446744073709551616 : Nat) : Int)], .agg [.int .u64 0, .int .u64 b]]
    (.tup [.agg [.int .u64 ((x / b / 18446744073709551616 : Nat) : Int), .int .u64 ((x / b % 18446744073709551616 : Nat) : Int)], .agg [.int .u64 0, .int .u64 ((x % b : Nat) : Int)]]) [] := by
  obtain ⟨xh, hxh⟩ : ∃ xh, xh = x / 18446744073709551616 := ⟨_, rfl⟩
  obtain ⟨xl, hxl⟩ : ∃ xl, xl = x % 18446744073709551616 := ⟨_, rfl⟩
  obtain ⟨yh, hyh⟩ : ∃ yh, yh = x / b / 18446744073709551616 := ⟨_, rfl⟩
  obtain ⟨yl, hyl⟩ : ∃ yl, yl = x / b % 18446744073709551616 := ⟨_, rfl⟩
  obtain ⟨z, hz⟩ : ∃ z, z = x % b := ⟨_, rfl⟩
  rw [← hxh, ← hxl, ← hyh, ← hyl, ← hz]
  refine start hC (nf := N82_ref03_Div) rfl rfl ?_
  simp [N82_ref03_Div]
  refine loop_of (Nat × Nat × Nat × Nat × Nat × Nat) (fun s => [(2, .adr (.r 10032) 0 0), (3, .ptr [.int .u64 0, .int .u64 b]), (4, .adr (.r 10064) 0 0), (5, .adr (.r 10080) 0 0), (6, .adr (.r 10096) 0 0), (7, .adr (.r 10112) 0 0), (8, .int .i64 s.1),
      (10032, .blk 2 [[.int .u64 s.2.1, .int .u64 s.2.2.1]]), (10064, .blk 2 [[.int .u64 0, .int .u64 0]]), (10080, .blk 2 [[.int .u64 0, .int .u64 0]]), (10096, .blk 2 [[.int .u64 s.2.2.2.1, .int .u64 s.2.2.2.2.1]]), (10112, .blk 2 [[.int .u64 0, .int .u64 s.2.2.2.2.2]])])
    (fun s => s.2.2.1 < 18446744073709551616 ∧ s.2.2.2.2.1 < 18446744073709551616 ∧ DvS x b s.1 (s.2.1 * 18446744073709551616 + s.2.2.1) (s.2.2.2.1 * 18446744073709551616 + s.2.2.2.2.1) s.2.2.2.2.2) (fun s => 128 - s.1) (0, xh, xl, 0, 0, 0) ⟨by simp; omega, by simp, by omega, by simpa using hb0, x, by simp; omega, by simp; exact hx, by simp⟩ (by simp) ?_
  rintro ⟨i, ah, al, qh, ql, r⟩ ⟨hal, hql, hS⟩
  simp only at hal hql hS
  simp
  refine brB_of (fun c => ?_) (fun c => ?_) <;> simp at c <;> simp [c]
  · have hrb := hS.2.1
    have hw1 : IntKind.wrap .i64 ((i : Int) + 1) = ((i + 1 : Nat) : Int) := wrap_i64 (by omega) (by omega)
    obtain ⟨g1, g2, g3⟩ := hS.step (by omega) hb0
    obtain ⟨A, hA⟩ : ∃ A, A = ah * 18446744073709551616 + al := ⟨_, rfl⟩
    obtain ⟨Q, hQ⟩ : ∃ Q, Q = qh * 18446744073709551616 + ql := ⟨_, rfl⟩
    rw [← hA] at g1 g3
    rw [← hQ] at g2 g3
    obtain ⟨t, ht⟩ : ∃ t, t = ah / 9223372036854775808 := ⟨_, rfl⟩
    have ht2 : A / 170141183460469231731687303715884105728 = t := by omega
    rw [ht2] at g3
    obtain ⟨p, hp⟩ : ∃ p, p = 2 * A % 340282366920938463463374607431768211456 / 18446744073709551616 := ⟨_, rfl⟩
    obtain ⟨o, ho⟩ : ∃ o, o = 2 * A % 340282366920938463463374607431768211456 % 18446744073709551616 := ⟨_, rfl⟩
    have k1 := rShift_c hC ah al 0 t p o (by omega) (by omega) (by omega) (by omega) (by omega)
    have k2 := rShift_c hC 0 r t 0 0 (2 * r + t) (by omega) (by omega) (by omega) (by omega) (by omega)
    obtain ⟨u, hu⟩ : ∃ u, u = 2 * Q / 18446744073709551616 := ⟨_, rfl⟩
    obtain ⟨v, hv⟩ : ∃ v, v = 2 * Q % 18446744073709551616 := ⟨_, rfl⟩
    have k3 := rShift_c hC qh ql 0 0 u v (by omega) (by omega) (by omega) (by omega) (by omega)
    obtain ⟨r2, hr2⟩ : ∃ r2, r2 = 2 * r + t := ⟨_, rfl⟩
    rw [← hr2] at k2 g3
    have k4 := rLess_c hC 0 r2 0 b
    simp only [Int.natCast_zero] at k1 k2 k3 k4
    have hsh : Int.fdiv (ah : Int) (2 ^ min 63 IntKind.u64.bits) = (t : Int) := by rw [shr63, ht]
    have hsh0 : Int.fdiv 0 (2 ^ min 63 IntKind.u64.bits) = 0 := by simpa using shr63 0
    have e1 : p * 18446744073709551616 + o = 2 * A % 340282366920938463463374607431768211456 := by rw [hp, ho]; exact Nat.div_add_mod' _ _
    have e2 : u * 18446744073709551616 + v = 2 * Q := by rw [hu, hv]; exact Nat.div_add_mod' _ _
    simp [hsh]
    refine callW_of k1 (.inl rfl) ?_
    simp [hsh0]
    refine callW_of k2 (.inl rfl) ?_
    simp
    refine callW_of k3 (.inl rfl) ?_
    simp
    refine callW_of k4 (.inl rfl) ?_
    simp
    refine brB_of (fun d => ?_) (fun d => ?_) <;> simp at d <;> simp [d, hw1]
    · obtain ⟨r3, hr3⟩ : ∃ r3, r3 = r2 - b := ⟨_, rfl⟩
      have k5 := rMinus_c hC 0 r2 0 b 0 r3 (by omega) (by omega) (by omega) (by omega) (by clear g3 hp ho hu hv g1 g2 hx k1 k2 k3 k4 e1 e2; omega)
      simp only [Int.natCast_zero] at k5
      obtain ⟨m1, m2⟩ := g3 1 r3 (2 * A % 340282366920938463463374607431768211456) (by omega) (by omega) rfl
      have hve : v % 2 = 0 ∧ v < 18446744073709551616 := by
        clear g3 m1 m2 k1 k2 k3 k4 k5 hS e1 e2 hp ho g1 hA
        omega
      have hv1 : IntKind.u64.wrap ((v : Int) + 1) = ((v + 1 : Nat) : Int) := uw (.inl (by push_cast; rfl)) (by clear g3 m1 m2 hp ho hu hv; omega)
      refine callW_of k5 (.inl rfl) ?_
      simp [hv1, hw1]
      refine ⟨i + 1, p, o, u, v + 1, r3, ⟨by clear g3 m1 m2 hu hv; omega, by clear g3 m1 m2 hp ho hu hv; omega, ?_⟩, by omega, ?_⟩
      · rw [e1, ← Nat.add_assoc, e2]; exact m1
      · simp
    · obtain ⟨m1, m2⟩ := g3 0 r2 (2 * A % 340282366920938463463374607431768211456) (by omega) (by omega) rfl
      refine ⟨i + 1, p, o, u, v, r2, ⟨by omega, by omega, ?_⟩, by omega, ?_⟩
      · rw [e1, e2]; exact m1
      · simp
  · obtain rfl : i = 128 := by have := hS.1; omega
    obtain ⟨e1, e2⟩ := hS.last
    refine ⟨indW_of (by decide +kernel), ?_⟩
    rw [← hz] at e2
    subst e2
    obtain ⟨Y, hY⟩ : ∃ Y, Y = x / b := ⟨_, rfl⟩
    rw [← hY] at e1 hyh hyl
    have e3 : qh = yh := by omega
    have e4 : ql = yl := by omega
    subst e3 e4
    simp
end Go.Gv

set_option linter.unusedSimpArgs false
namespace Go.Gv

theorem rootF_lt : ∀ (i x r : Nat), r + 2 ^ i ≤ 9223372036854775808 → rootF x i r < 9223372036854775808
  | 0, x, r, h => by simp only [rootF]; simp at h; omega
  | i + 1, x, r, h => by
    rw [rootF_step]
    have := Nat.two_pow_pos i
    rw [Nat.pow_succ] at h
    split <;> exact rootF_lt i x _ (by omega)
theorem rootN_lt (x : Nat) : rootN x < 9223372036854775808 := rootF_lt 63 x 0 (by decide)

variable {C : CC} (hC : Closed prog C)
include hC
theorem rDown_c (x b : Nat) (hx : x < 340282366920938463463374607431768211456) (hb0 : 0 < b) (hb : b < 9223372036854775808) : C 66 [.agg [.int .u64 ((x / 18446744073709551616 : Nat) : Int), .int .u64 ((x % 18446744073709551616 : Nat) : Int), .bool false], .agg [.int .u64 0, .int .u64 b, .bool false]]
    (.agg [.int .u64 ((x / b / 18446744073709551616 : Nat) : Int), .int .u64 ((x / b % 18446744073709551616 : Nat) : Int), .bool false]) [] := by
  have hd := rDiv_c hC x b hx hb0 hb
  obtain ⟨xh, hxh⟩ : ∃ xh, xh = x / 18446744073709551616 := ⟨_, rfl⟩
  obtain ⟨xl, hxl⟩ : ∃ xl, xl = x % 18446744073709551616 := ⟨_, rfl⟩
  obtain ⟨yh, hyh⟩ : ∃ yh, yh = x / b / 18446744073709551616 := ⟨_, rfl⟩
  obtain ⟨yl, hyl⟩ : ∃ yl, yl = x / b % 18446744073709551616 := ⟨_, rfl⟩
  obtain ⟨z, hz⟩ : ∃ z, z = x % b := ⟨_, rfl⟩
  rw [← hxh, ← hxl, ← hyh, ← hyl, ← hz] at hd
  rw [← hxh, ← hxl, ← hyh, ← hyl]
  refine start hC (nf := N66_ref03_Down) rfl rfl ?_
  simp [N66_ref03_Down]
  refine callW_of hd (.inr rfl) ?_
  simp
  refine callW_of (rMade_c hC yh yl) (.inl rfl) ?_
  simp
theorem rRoot_c (x : Nat) : C 69 [.agg [.int .u64 ((x / 18446744073709551616 : Nat) : Int), .int .u64 ((x % 18446744073709551616 : Nat) : Int)]] (.int .u64 (rootN x)) [] := by
  obtain ⟨h, hh⟩ : ∃ h, h = x / 18446744073709551616 := ⟨_, rfl⟩
  obtain ⟨l, hl⟩ : ∃ l, l = x % 18446744073709551616 := ⟨_, rfl⟩
  rw [← hh, ← hl]
  obtain ⟨N, hN⟩ : ∃ N, N = rootN x := ⟨_, rfl⟩
  rw [← hN]
  refine start hC (nf := N69_ref03_Root) rfl rfl ?_
  simp [N69_ref03_Root]
  refine loop_of (Nat × Nat) (fun s => [(1, .ptr [.int .u64 (h : Int), .int .u64 (l : Int)]), (3, .int .u64 s.2), (4, .int .i64 ((63 - s.1 : Nat) : Int))])
    (fun s => s.1 ≤ 63 ∧ s.2 + 2 ^ s.1 ≤ 9223372036854775808 ∧ rootF x s.1 s.2 = N) (fun s => s.1) (63, 0) ⟨by omega, by decide, by rw [hN]; rfl⟩ (by simp) ?_
  rintro ⟨i, r⟩ ⟨h1, h2, h3⟩
  simp only at h1 h2 h3
  simp
  refine brB_of (fun c => ?_) (fun c => ?_) <;> simp at c <;> simp [c]
  · obtain ⟨j, rfl⟩ : ∃ j, i = j + 1 := ⟨i - 1, by omega⟩
    have e62 : IntKind.i64.wrap (62 - ((62 - j : Nat) : Int)) = (j : Int) := wrap_i64 (by omega) (by omega)
    have ej : IntKind.u64.wrap (j : Int) = (j : Int) := wrapN j (by omega)
    have hw : IntKind.wrap .i64 (((62 - j : Nat) : Int) + 1) = ((63 - j : Nat) : Int) := wrap_i64 (by omega) (by omega)
    obtain ⟨V, hV⟩ : ∃ V, V = 2 ^ j := ⟨_, rfl⟩
    have hV2 : 2 ^ (j + 1) = 2 * V := by rw [Nat.pow_succ, hV]; omega
    rw [hV2] at h2
    have hVp : 0 < V := by rw [hV]; exact Nat.two_pow_pos j
    have hmin : min j IntKind.u64.bits = j := Nat.min_eq_left (by show j ≤ 64; omega)
    have esh : IntKind.u64.wrap (2 ^ j) = (V : Int) := by
      have : (2 : Int) ^ j = ((2 ^ j : Nat) : Int) := by push_cast; rfl
      rw [this, ← hV]; exact wrapN V (by omega)
    obtain ⟨y, hy⟩ : ∃ y, y = r + V := ⟨_, rfl⟩
    have ey : IntKind.u64.wrap ((r : Int) + (V : Int)) = (y : Int) := uw (.inl (by omega)) (by omega)
    have hm := rMul_c hC y y (by omega) (by omega)
    rw [wideD] at hm
    obtain ⟨Z, hZ⟩ : ∃ Z, Z = y * y := ⟨_, rfl⟩
    obtain ⟨zh, hzh⟩ : ∃ zh, zh = Z / 18446744073709551616 := ⟨_, rfl⟩
    obtain ⟨zl, hzl⟩ : ∃ zl, zl = Z % 18446744073709551616 := ⟨_, rfl⟩
    rw [← hZ, ← hzh, ← hzl] at hm
    have hls := rLess_c hC h l zh zl
    have hcmp : (h < zh ∨ (h = zh ∧ l < zl)) ↔ x < Z := by
      rw [hh, hl, hzh, hzl]; omega
    have hdc : decide (h < zh ∨ (h = zh ∧ l < zl)) = decide (x < Z) := decide_eq_decide.2 hcmp
    rw [hdc] at hls
    rw [rootF_step, ← hV, ← hy, ← hZ] at h3
    simp [e62, ej, hmin, esh, ey]
    refine callW_of hm (.inl rfl) ?_
    simp
    refine callW_of hls (.inl rfl) ?_
    simp
    refine ⟨indW_of (by decide +kernel), ?_⟩
    by_cases d : x < Z
    · simp [d, hw]
      rw [if_neg (show ¬ Z ≤ x by omega)] at h3
      exact ⟨j, r, ⟨by omega, by rw [← hV]; omega, h3⟩, by omega, rfl, rfl⟩
    · simp [d, hw]
      rw [if_pos (show Z ≤ x by omega)] at h3
      exact ⟨j, y, ⟨by omega, by rw [← hV]; omega, h3⟩, by omega, rfl, rfl⟩
  · obtain rfl : i = 0 := by omega
    have h4 : r = N := h3
    rw [h4]
theorem rRoot3_c (a b n : Nat) (ha : a < 9223372036854775808) (hb : b < 9223372036854775808) (hn : 0 < n) (hn2 : n < 9223372036854775808) : C 57 [.int .i64 a, .int .i64 b, .int .i64 n] (.int .i64 (rootN (a * b / n))) [] := by
  have hab : a * b < 340282366920938463463374607431768211456 := by
    have : a * b ≤ 9223372036854775808 * 9223372036854775808 := Nat.mul_le_mul (by omega) (by omega)
    omega
  have h1 := rTimes_c hC a b ha hb
  have h2 := rDown_c hC (a * b) n hab hn hn2
  have h3 := rRoot_c hC (a * b / n)
  have h4 := rootN_lt (a * b / n)
  obtain ⟨P, hP⟩ : ∃ P, P = a * b := ⟨_, rfl⟩
  rw [← hP] at h1 h2 h3 h4 ⊢
  obtain ⟨p, hp⟩ : ∃ p, p = P / 18446744073709551616 := ⟨_, rfl⟩
  obtain ⟨q, hq⟩ : ∃ q, q = P % 18446744073709551616 := ⟨_, rfl⟩
  rw [← hp, ← hq] at h1 h2
  obtain ⟨Q, hQ⟩ : ∃ Q, Q = P / n := ⟨_, rfl⟩
  rw [← hQ] at h2 h3 h4 ⊢
  obtain ⟨u, hu⟩ : ∃ u, u = Q / 18446744073709551616 := ⟨_, rfl⟩
  obtain ⟨v, hv⟩ : ∃ v, v = Q % 18446744073709551616 := ⟨_, rfl⟩
  rw [← hu, ← hv] at h2 h3
  obtain ⟨N, hN⟩ : ∃ N, N = rootN Q := ⟨_, rfl⟩
  rw [← hN] at h3 h4 ⊢
  refine start hC (nf := N57_ref28_Root) rfl rfl ?_
  have hw : IntKind.i64.wrap (N : Int) = (N : Int) := wrap_i64 rfl (by omega)
  simp [N57_ref28_Root]
  refine callW_of h1 (.inl rfl) ?_
  simp
  refine callW_of (rOfInt_c hC n hn2) (.inl rfl) ?_
  simp
  refine callW_of h2 (.inl rfl) ?_
  simp
  refine callW_of h3 (.inl rfl) ?_
  simp [hw]
end Go.Gv

set_option linter.unusedSimpArgs false
namespace Go.Gv
variable {C : CC} (hC : Closed prog C)
include hC
theorem rDigit_c (c : Int) : C 78 [.int .u8 c] (.bool (isDigit c)) [] := by
  refine start hC (nf := N78_ref01_Digit) rfl rfl ?_
  simp [N78_ref01_Digit, isDigit]
  refine brB_of (fun h => ?_) (fun h => ?_) <;> simp at h <;> simp [h] <;> omega
theorem rLetter_c (c : Int) : C 62 [.int .u8 c] (.bool (isLetter c)) [] := by
  refine start hC (nf := N62_ref01_Letter) rfl rfl ?_
  simp [N62_ref01_Letter, isLetter]
  repeat' (refine brB_of (fun h => ?_) (fun h => ?_) <;> simp at h <;> simp [h] <;> try omega)
theorem rword_c (s : List UInt8) (hs : s.length < 2 ^ 62) : C 63 [.str s, .int .i64 0] (.int .i64 (wordLen s)) [] := by
  refine start hC (nf := N63_ref01_word) rfl rfl ?_
  simp [N63_ref01_word]
  refine loop_of Nat (fun i => [(0, .str s), (1, .int .i64 i)]) (fun i => i ≤ wordLen s) (fun i => wordLen s - i) 0 (by simp) (by simp) ?_
  intro i hi
  have hle : wordLen s ≤ s.length := wordLen_le s
  by_cases hl : i < s.length
  · simp [hl]
    refine callW_of (rLetter_c hC _) (.inl rfl) ?_
    have hstep : isWordB s[i] = true → i + 1 ≤ wordLen s := wordLen_more hl hi
    have hstop : isWordB s[i] = false → i = wordLen s := wordLen_stop hl hi
    simp only [isWordB] at hstep hstop
    have hw : IntKind.wrap .i64 ((i : Int) + 1) = ((i + 1 : Nat) : Int) := wrap_i64 (by omega) (by omega)
    cases h1 : isLetter s[i].toNat with
    | true => 
      simp [h1, hw] at hstep ⊢
      exact ⟨i + 1, by omega, by omega, rfl⟩
    | false =>
      simp [h1, hl]
      refine callW_of (rDigit_c hC _) (.inl rfl) ?_
      cases h2 : isDigit s[i].toNat with
      | true =>
        simp [h1, h2, hw] at hstep ⊢
        exact ⟨i + 1, by omega, by omega, rfl⟩
      | false =>
        simp [hl]
        refine brB_of (fun h3 => ?_) (fun h3 => ?_) <;> simp at h3
        · simp [hw, hl]
          have := hstep (by simp [show s[i].toNat = 95 by omega])
          exact ⟨i + 1, this, by omega, rfl⟩
        · have h4 : ¬ s[i].toNat = 95 := by omega
          simp [h1, h2, h4] at hstop ⊢
          omega
  · simp [hl]
    have : i = wordLen s := by omega
    omega
theorem rIsName_c (s : List UInt8) : C 54 [.str s] (.bool (isName s)) [] := by
  refine start hC (nf := N54_ref01_IsName) rfl rfl ?_
  simp [N54_ref01_IsName]
  refine brB_of (fun h => ?_) (fun h => ?_) <;> simp at h
  · subst h
    simp [isName]
  · have hp : 0 < s.length := List.length_pos_iff.2 h
    simp [h, hp]
    refine brB_of (fun h2 => ?_) (fun h2 => ?_) <;> simp at h2
    · simp [h2, isName]
      omega
    · simp [h2, hp]
      refine callW_of (rLetter_c hC _) (.inl rfl) ?_
      simp
      cases h3 : isLetter s[0].toNat
      · simp [h3, isName, h, hp]
      · simp [h3, h2]
        refine callW_of (rword_c hC s (by omega)) (.inl rfl) ?_
        simp [isName, h, h3, show s.length ≤ 20 by omega, hp, Int.ofNat_inj]
        rw [Bool.eq_iff_iff]; simp
theorem rNumber_c (n : Int) : C 79 [.int .i64 n] (.bool (fits n)) [] := by
  refine start hC (nf := N79_ref06_Number) rfl rfl ?_
  simp [N79_ref06_Number, fits]
  refine brB_of (fun h => ?_) (fun h => ?_) <;> simp at h <;> simp [h] <;> omega
theorem rTable_c (b : Bool) (t : List (Int × Int)) : C 64 [slx b (t.map knD)] (.bool (tableValid t)) [] := by
  refine start hC (nf := N64_ref06_Valid) rfl rfl ?_
  simp [N64_ref06_Valid]
  refine brB_of (fun h => ?_) (fun h => ?_) <;> simp at h
  · simp [tableValid, show t.length = 0 by omega]
  simp [h]
  refine brB_of (fun h2 => ?_) (fun h2 => ?_) <;> simp at h2
  · simp [tableValid, h, h2]
    omega
  simp
  refine loop_of Nat (fun i => [(0, slx b (t.map knD)), (3, .int .i64 i)]) (fun i => i ≤ t.length ∧ ∀ j < i, okAt t j = true) (fun i => t.length - i) 0 (by simp) (by simp) ?_
  rintro i ⟨hi, hj⟩
  simp
  refine brB_of (fun h3 => ?_) (fun h3 => ?_) <;> simp at h3
  · have bad : okAt t i = false → tableValid t = false := fun hb => by
      simp only [tableValid, Bool.and_eq_false_iff, List.all_eq_false]
      exact .inr ⟨i, by simpa using h3, by simp [hb]⟩
    have e1 : t[i]! = t[i] := getElem!_pos t i h3
    have e2 : t[i - 1]! = t[i - 1] := getElem!_pos t (i - 1) (by omega)
    simp only [okAt, e1, e2] at bad
    have hw1 : IntKind.wrap .i64 ((i : Int) + 1) = ((i + 1 : Nat) : Int) := wrap_i64 (by omega) (by omega)
    have next : okAt t i = true → ∃ s' : Nat, (s' ≤ t.length ∧ ∀ j < s', okAt t j = true) ∧ t.length - s' < t.length - i ∧ s' = i + 1 := fun ho =>
      ⟨i + 1, ⟨by omega, fun j hjj => by
        rcases Nat.lt_succ_iff_lt_or_eq.1 hjj with h | rfl
        · exact hj j h
        · exact ho⟩, by omega, rfl⟩
    simp only [okAt, e1, e2] at next
    simp [h3, knD]
    refine callW_of (rNumber_c hC _) (.inl rfl) ?_
    cases f1 : fits t[i].1
    · simp
      exact bad (by simp [f1])
    simp [h3, knD]
    refine callW_of (rNumber_c hC _) (.inl rfl) ?_
    cases f2 : fits t[i].2
    · simp
      exact bad (by simp [f2])
    simp [h3, knD]
    refine brB_of (fun h4 => ?_) (fun h4 => ?_) <;> simp at h4
    · have hw : IntKind.wrap .i64 ((i : Int) - 1) = ((i - 1 : Nat) : Int) := wrap_i64 (by omega) (by omega)
      have h5 : i - 1 < t.length := by omega
      simp [h4, hw, h5, h3, knD]
      refine brB_of (fun h6 => ?_) (fun h6 => ?_) <;> simp [h6, hw, h5, h3, knD] <;> simp at h6
      · refine ⟨indW_of (by decide +kernel), bad ?_⟩
        simp [f1, f2]
        omega
      · refine ⟨indW_of (by decide +kernel), ?_⟩
        refine brB_of (fun h7 => ?_) (fun h7 => ?_) <;> simp [h7, hw1] <;> simp at h7
        · refine bad ?_
          simp [f1, f2]
          omega
        · obtain ⟨s', g1, g2, rfl⟩ := next (by simp [f1, f2, h6, h7])
          exact ⟨_, g1, g2, rfl⟩
    · have hi0 : i = 0 := by omega
      subst hi0
      simp at hw1
      simp [hw1]
      refine ⟨indW_of (by decide +kernel), ?_⟩
      obtain ⟨s', g1, g2, rfl⟩ := next (by simp [f1, f2])
      exact ⟨_, g1, g2, rfl⟩
  · have : i = t.length := by omega
    subst this
    simp [tableValid, h, h2]
    exact ⟨⟨by omega, by omega⟩, hj⟩
end Go.Gv

set_option linter.unusedSimpArgs false
namespace Go.Gv
variable {C : CC} (hC : Closed prog C)
include hC
theorem rfits_c (b : Bool) (t : List (Int × Int)) (hgt most : Int) : C 55 [slx b (t.map knD), .int .i64 hgt, .int .i64 most] (.bool (curveOk t hgt most)) [] := by
  refine start hC (nf := N55_ref28_fits) rfl rfl ?_
  simp [N55_ref28_fits]
  refine callW_of (rTable_c hC b t) (.inl rfl) ?_
  cases hv : tableValid t
  · simp [curveOk, hv]
  obtain ⟨l1, l2⟩ := valid_len hv
  obtain ⟨n, hn⟩ : ∃ n, n + 1 = t.length := ⟨t.length - 1, by omega⟩
  have e1 : IntKind.wrap .i64 ((t.length : Int) - 1) = (n : Int) := wrap_i64 (by omega) (by omega)
  have hnl : n < t.length := by omega
  have h0 : 0 < t.length := by omega
  have e0 : t[0]! = t[0] := getElem!_pos t 0 h0
  simp [e1, hnl, h0, knD]
  rw [curveOk, lastK_get hn, e0, hv]
  refine brB_of (fun c => ?_) (fun c => ?_) <;> simp [h0, knD] at c <;> simp [c, h0, hnl, knD]
  refine brB_of (fun c2 => ?_) (fun c2 => ?_) <;> simp [h0, knD] at c2 <;> simp [c2, h0, hnl, knD]
  refine brB_of (fun c3 => ?_) (fun c3 => ?_) <;> simp [h0, knD] at c3 <;> simp [c3, h0, hnl, knD]
  exact fun _ => ⟨c, c2⟩
theorem rRight_c (s : Sec) : C 48 [.agg (secC s)] (.bool (secValid s)) [] := by
  refine start hC (nf := N48_ref28_Right) rfl rfl ?_
  simp [N48_ref28_Right, secC]
  refine callW_of (rIsName_c hC s.name) (.inl rfl) ?_
  cases h1 : isName s.name
  · simp [secValid, h1]
  simp
  refine brB_of (fun c1 => ?_) (fun c1 => ?_) <;> simp [c1] <;> simp at c1
  · simp [secValid]; omega
  refine brB_of (fun c2 => ?_) (fun c2 => ?_) <;> simp [c2] <;> simp at c2
  · simp [secValid]; omega
  refine brB_of (fun c3 => ?_) (fun c3 => ?_) <;> simp [c3] <;> simp at c3
  · simp [secValid]; omega
  refine brB_of (fun c4 => ?_) (fun c4 => ?_) <;> simp [c4] <;> simp at c4
  · simp [secValid]; omega
  refine callW_of (rfits_c hC _ _ _ _) (.inl rfl) ?_
  cases h5 : curveOk s.area s.height 1073741824
  · simp [secValid, h5]
  simp
  refine callW_of (rfits_c hC _ _ _ _) (.inl rfl) ?_
  have d1 : 1 ≤ s.height := by omega
  simp [secValid, h1, d1, c2, c3, c4, h5]
end Go.Gv

set_option linter.unusedSimpArgs false
namespace Go.Gv
/-- The value of a table, as the reference finds it. -/
def valF (t : List (Int × Int)) (x : Int) : Int :=
  if posK t (x + 1) = 0 then t[0]!.2 else if posK t (x + 1) = t.length then t[posK t (x + 1) - 1]!.2 else (betK t[posK t (x + 1) - 1]! t[posK t (x + 1)]! x).1
theorem posK_next {t : List (Int × Int)} (hv : tableValid t = true) (x : Int) : posK t (x + 1) = if atK t x then posK t x + 1 else posK t x := by
  have h1 := posK_le t x
  have h2 := posK_le t (x + 1)
  cases ha : atK t x
  · rw [if_neg (by simp)]
    apply Nat.le_antisymm
    · by_cases hl : posK t x < t.length
      · have h3 := posK_ge hl
        have e : t[posK t x]! = t[posK t x] := getElem!_pos t _ hl
        simp only [atK, hl, decide_true, Bool.true_and, decide_eq_false_iff_not, e] at ha
        exact posK_of_le hl (by omega)
      · omega
    · apply Nat.le_of_not_lt
      intro h
      have h4 := posK_ge (t := t) (x := x + 1) (by omega)
      have h5 := posK_lt (t := t) (x := x) h (by omega)
      omega
  · rw [if_pos rfl]
    have hl : posK t x < t.length := by simp [atK] at ha; exact ha.1
    have e : t[posK t x]! = t[posK t x] := getElem!_pos t _ hl
    simp only [atK, hl, decide_true, Bool.true_and, decide_eq_true_eq, e] at ha
    apply Nat.le_antisymm
    · by_cases hl2 : posK t x + 1 < t.length
      · have := valid_asc hv (posK t x) (posK t x + 1) hl2 (by omega)
        exact posK_of_le hl2 (by omega)
      · omega
    · have := posK_of_lt hv (x := x + 1) hl (by omega)
      omega
theorem pieceF_at {t : List (Int × Int)} {x : Int} (h : atK t x = true ∨ posK t x = 0) : (pieceF t x).1 = t[posK t x]!.2 := by
  unfold pieceF; rw [if_pos (by rcases h with h | h <;> simp [h])]
theorem pieceF_end {t : List (Int × Int)} {x : Int} (h : ¬ atK t x = true) (h0 : ¬ posK t x = 0) (h1 : posK t x = t.length) : (pieceF t x).1 = t[posK t x - 1]!.2 := by
  unfold pieceF; rw [if_neg (by simp [h, h0]), if_pos h1]
theorem pieceF_bet {t : List (Int × Int)} {x : Int} (h : ¬ atK t x = true) (h0 : ¬ posK t x = 0) (h1 : ¬ posK t x = t.length) : (pieceF t x).1 = (betK t[posK t x - 1]! t[posK t x]! x).1 := by
  unfold pieceF; rw [if_neg (by simp [h, h0]), if_neg h1]
theorem valF_eq {t : List (Int × Int)} (hv : tableValid t = true) (x : Int) : valF t x = (pieceF t x).1 := by
  obtain ⟨l1, l2⟩ := valid_len hv
  have hn := posK_next hv x
  unfold valF
  by_cases ha : atK t x = true
  · rw [if_pos ha] at hn
    rw [pieceF_at (.inl ha)]
    have hl : posK t x < t.length := by simp [atK] at ha; exact ha.1
    have e : t[posK t x]! = t[posK t x] := getElem!_pos t _ hl
    simp only [atK, hl, decide_true, Bool.true_and, decide_eq_true_eq, e] at ha
    rw [hn, if_neg (by omega), Nat.add_sub_cancel, e]
    by_cases h1 : posK t x + 1 = t.length
    · rw [if_pos h1]
    · rw [if_neg h1]
      simp only [betK, ha, Int.sub_self, Int.mul_zero, Int.zero_ediv, Int.add_zero]
  · rw [if_neg ha] at hn
    rw [hn]
    by_cases h0 : posK t x = 0
    · rw [if_pos h0, pieceF_at (.inr h0), h0]
    · rw [if_neg h0]
      by_cases h1 : posK t x = t.length
      · rw [if_pos h1, pieceF_end ha h0 h1]
      · rw [if_neg h1, pieceF_bet ha h0 h1]

variable {C : CC} (hC : Closed prog C)
include hC
theorem rbeforeG_c (b : Bool) (t : List (Int × Int)) (x : Int) (hv : tableValid t = true) : C 80 [slx b (t.map knD), .int .i64 x] (.int .i64 ((posK t (x + 1) : Int) - 1)) [] := by
  obtain ⟨l1, l2⟩ := valid_len hv
  have hpl := posK_le t (x + 1)
  have hlt : ∀ j, (hj : j < t.length) → t[j].1 ≤ x → j < posK t (x + 1) := fun j hj h1 => posK_of_lt hv hj (by omega)
  have hge : ∀ j, (hj : j < t.length) → ¬ t[j].1 ≤ x → posK t (x + 1) ≤ j := fun j hj h1 => posK_of_le hj (by omega)
  obtain ⟨p, hp⟩ : ∃ p, p = posK t (x + 1) := ⟨_, rfl⟩
  rw [← hp] at hpl ⊢
  simp only [← hp] at hlt hge
  refine start hC (nf := N80_ref06_before) rfl rfl ?_
  simp [N80_ref06_before]
  refine loop_of Nat (fun i => [(0, slx b (t.map knD)), (1, .int .i64 x), (5, .int .i64 (((if i ≤ p then i else p : Nat) : Int) - 1)), (6, .int .i64 i)]) (fun i => i ≤ t.length) (fun i => t.length - i) 0 (by simp) (by simp) ?_
  rintro i hi
  simp
  refine brB_of (fun h1 => ?_) (fun h1 => ?_) <;> simp at h1 <;> simp [h1]
  · have hw : IntKind.wrap .i64 ((i : Int) + 1) = ((i + 1 : Nat) : Int) := wrap_i64 (by omega) (by omega)
    simp [h1, knD]
    refine brB_of (fun h2 => ?_) (fun h2 => ?_) <;> simp at h2 <;> simp [h2, hw]
    · have := hlt i h1 h2
      exact ⟨i + 1, by omega, by omega, by rw [if_pos (by omega)]; omega, by omega⟩
    · have := hge i h1 (by omega)
      refine ⟨i + 1, by omega, by omega, ?_, by omega⟩
      rw [if_neg (show ¬ i + 1 ≤ p by omega)]
      split <;> omega
  · split <;> omega
theorem rIsInt_c (q : Nat) (h : q < 9223372036854775808) : C 93 [.agg [.int .u64 0, .int .u64 q, .bool false]] (.tup [.int .i64 q, .bool true]) [] := by
  have e1 : IntKind.i64.wrap (q : Int) = (q : Int) := wrap_i64 rfl (by omega)
  have e2 : (q : Int) < 9223372036854775808 := by omega
  refine start hC (nf := N93_ref03_IsInt) rfl rfl ?_
  simp [N93_ref03_IsInt, e1, e2]
  exact indW_of (by decide +kernel)
theorem rFloorOf_c (u a d : Nat) (hu : u < 9223372036854775808) (ha : a < 9223372036854775808) (hd0 : 0 < d) (hd : d < 9223372036854775808) (hq : u * a / d < 9223372036854775808) : C 81 [.int .i64 u, .int .i64 a, .int .i64 d] (.int .i64 (u * a / d : Nat)) [] := by
  have hx : u * a < 340282366920938463463374607431768211456 := by
    have := Nat.mul_le_mul (show u ≤ 9223372036854775808 by omega) (show a ≤ 9223372036854775808 by omega)
    omega
  have k1 := rTimes_c hC u a hu ha
  have k2 := rOfInt_c hC d hd
  have k3 := rDown_c hC (u * a) d hx hd0 hd
  have k4 := rIsInt_c hC (u * a / d) hq
  obtain ⟨q, e⟩ : ∃ q, q = u * a / d := ⟨_, rfl⟩
  obtain ⟨xh, hxh⟩ : ∃ z, z = u * a / 18446744073709551616 := ⟨_, rfl⟩
  obtain ⟨xl, hxl⟩ : ∃ z, z = u * a % 18446744073709551616 := ⟨_, rfl⟩
  rw [← e] at k3 k4 hq ⊢
  rw [← hxh, ← hxl] at k1 k3
  rw [show q / 18446744073709551616 = 0 by omega, show q % 18446744073709551616 = q by omega] at k3
  clear hx hq
  simp only [Int.natCast_zero] at k3
  refine start hC (nf := N81_ref03_FloorOf) rfl rfl ?_
  simp [N81_ref03_FloorOf]
  refine callW_of k1 (.inr rfl) ?_
  simp
  refine callW_of k2 (.inr rfl) ?_
  simp
  refine callW_of k3 (.inr rfl) ?_
  simp
  refine callW_of k4 (.inl rfl) ?_
  simp
set_option maxRecDepth 8000 in
set_option maxHeartbeats 2000000 in
theorem rValueG_c (b : Bool) (t : List (Int × Int)) (x : Int) (hv : tableValid t = true) : ∃ y z : Int, C 65 [slx b (t.map knD), .int .i64 x] (.tup [.int .i64 (valF t x), .int .i64 y, .int .i64 z]) [] := by
  obtain ⟨l1, l2⟩ := valid_len hv
  have hb := rbeforeG_c hC b t x hv
  have hpl := posK_le t (x + 1)
  have hn := posK_next hv x
  obtain ⟨r, hr⟩ : ∃ r, r = valF t x := ⟨_, rfl⟩
  rw [← hr]
  unfold valF at hr
  have hw : IntKind.i64.wrap ((t.length : Int) - 1) = (t.length : Int) - 1 := wrap_i64 rfl (by omega)
  have st : ∀ y z : Int, (∀ K : Prop, K → K) → True := fun _ _ _ => trivial
  by_cases h0 : posK t (x + 1) = 0
  · refine ⟨0, 1, ?_⟩
    rw [if_pos h0] at hr
    rw [h0] at hb
    have hl0 : 0 < t.length := by omega
    have e0 : t[0]! = t[0] := getElem!_pos t 0 hl0
    rw [e0] at hr
    refine start hC (nf := N65_ref06_Value) rfl rfl ?_
    simp [N65_ref06_Value]
    refine callW_of hb (.inl rfl) ?_
    simp [hl0, knD, hr]
  rw [if_neg h0] at hr
  obtain ⟨k, hk⟩ : ∃ k, posK t (x + 1) = k + 1 := ⟨posK t (x + 1) - 1, by omega⟩
  have hkl : k < t.length := by omega
  have e1 : t[k]! = t[k] := getElem!_pos t k hkl
  have h2 : ¬ (k : Int) < 0 := by omega
  rw [hk] at hb
  simp only [hk, Nat.add_sub_cancel, e1] at hr
  have e2 : ((k + 1 : Nat) : Int) - 1 = (k : Int) := by omega
  rw [e2] at hb
  by_cases h1 : k + 1 = t.length
  · refine ⟨0, 1, ?_⟩
    rw [if_pos h1] at hr
    have h3 : (k : Int) = (t.length : Int) - 1 := by omega
    refine start hC (nf := N65_ref06_Value) rfl rfl ?_
    simp [N65_ref06_Value]
    refine callW_of hb (.inl rfl) ?_
    have hw' : IntKind.i64.wrap ((t.length : Int) - 1) = (k : Int) := wrap_i64 (by omega) (by omega)
    simp [h2, hw', hkl, knD, hr]
  · rw [if_neg h1] at hr
    have hkl2 : k + 1 < t.length := by omega
    have e3 : t[k + 1]! = t[k + 1] := getElem!_pos t (k + 1) hkl2
    rw [e3] at hr
    have f7 := (valid_ok hv hkl2).2.2 k rfl
    have f1 := (valid_ok hv hkl).1
    have f2 := (valid_ok hv hkl).2.1
    have f4 := (valid_ok hv hkl2).1
    have f5 := (valid_ok hv hkl2).2.1
    simp only [fits, Bool.and_eq_true, decide_eq_true_eq] at f1 f2 f4 f5
    have hx1 : t[k].1 < x + 1 := posK_lt (by omega) hkl
    have hx2 : x + 1 ≤ t[k + 1].1 := by
      have := posK_ge (t := t) (x := x + 1) (by omega)
      simp only [hk] at this
      exact this
    obtain ⟨u, hu⟩ : ∃ u : Nat, t[k + 1].2 - t[k].2 = u := ⟨(t[k + 1].2 - t[k].2).toNat, by omega⟩
    obtain ⟨a, ha⟩ : ∃ a : Nat, x - t[k].1 = a := ⟨(x - t[k].1).toNat, by omega⟩
    obtain ⟨d, hd⟩ : ∃ d : Nat, t[k + 1].1 - t[k].1 = d := ⟨(t[k + 1].1 - t[k].1).toNat, by omega⟩
    rw [betN hu ha hd] at hr
    simp only at hr
    have b5 : u * a / d ≤ u := by
      have h1 : u * a ≤ u * d := Nat.mul_le_mul_left _ (by omega)
      have h1' : u * d = d * u := Nat.mul_comm _ _
      exact Nat.le_of_lt_succ (Nat.div_lt_of_lt_mul (by rw [Nat.succ_eq_add_one, Nat.mul_add]; omega))
    have kf := rFloorOf_c hC u a d (by omega) (by omega) (by omega) (by omega) (by omega)
    obtain ⟨q, hq⟩ : ∃ q, q = u * a / d := ⟨_, rfl⟩
    rw [← hq] at kf hr b5
    have w1 : IntKind.i64.wrap ((k : Int) + 1) = ((k + 1 : Nat) : Int) := wrap_i64 (by omega) (by omega)
    have w2 : IntKind.i64.wrap (t[k + 1].2 - t[k].2) = (u : Int) := wrap_i64 hu (by omega)
    have w3 : IntKind.i64.wrap (t[k + 1].1 - t[k].1) = (d : Int) := wrap_i64 hd (by omega)
    have w4 : IntKind.i64.wrap (x - t[k].1) = (a : Int) := wrap_i64 ha (by omega)
    have w5 : IntKind.i64.wrap (t[k].2 + (q : Int)) = t[k].2 + (q : Int) := wrap_i64 rfl (by omega)
    have h4 : ¬ (k : Int) = (t.length : Int) - 1 := by omega
    refine ⟨IntKind.i64.wrap (IntKind.i64.wrap ((u : Int) * (a : Int)) - IntKind.i64.wrap ((q : Int) * (d : Int))), (d : Int), ?_⟩
    refine start hC (nf := N65_ref06_Value) rfl rfl ?_
    simp [N65_ref06_Value]
    refine callW_of hb (.inl rfl) ?_
    simp [h2, hw, h4, w1, hkl, hkl2, knD]
    refine ⟨by omega, indW_of (by decide +kernel), by omega, indW_of (by decide +kernel), ?_⟩
    rw [w2, w3, w4]
    refine callW_of kf (.inl rfl) ?_
    simp [hkl, knD, w5, hr]
    exact ⟨indW_of (by decide +kernel), by rw [w4]⟩
theorem rFloorG_c (b : Bool) (t : List (Int × Int)) (x : Int) (hv : tableValid t = true) : C 56 [slx b (t.map knD), .int .i64 x] (.int .i64 (pieceF t x).1) [] := by
  obtain ⟨y, z, h⟩ := rValueG_c hC b t x hv
  rw [valF_eq hv] at h
  refine start hC (nf := N56_ref06_Floor) rfl rfl ?_
  simp [N56_ref06_Floor]
  refine callW_of h (.inl rfl) ?_
  simp
end Go.Gv

set_option linter.unusedSimpArgs false
namespace Go.Gv
def depthR (s : Sec) (flow fall len : Int) : Int × Int :=
  if secValid s then (if 0 ≤ flow ∧ flow ≤ 1099511627776 ∧ slopeOk fall len = true then (if (carF s s.height fall len : Int) < flow then (0, 28) else (bis (enoughD s flow fall len) 40 0 s.height.toNat, 0)) else (0, 2)) else (0, 1)
variable {C : CC} (hC : Closed prog C)
include hC
theorem rSlope_c (n l : Int) : C 202 [.int .i64 n, .int .i64 l] (.bool (slopeOk n l)) [] := by
  refine start hC (nf := N202_ref28_Slope) rfl rfl ?_
  simp [N202_ref28_Slope, slopeOk]
  refine brB_of (fun h => ?_) (fun h => ?_) <;> simp at h <;> simp [h]
  · refine brB_of (fun h2 => ?_) (fun h2 => ?_) <;> simp at h2 <;> simp [h2]
    · refine brB_of (fun h3 => ?_) (fun h3 => ?_) <;> simp at h3 <;> simp [h3] <;> omega
    · omega
  · omega
theorem rCarriedG_c (s : Sec) (depth fall len : Int) (hs : secValid s = true) (hsl : slopeOk fall len = true) : C 50 [.agg (secC s), .int .i64 depth, .int .i64 fall, .int .i64 len] (.int .i64 (carF s depth fall len)) [] := by
  obtain ⟨h1, _, _, _⟩ := conv_last hs
  obtain ⟨h3, h4⟩ := conv_any hs depth
  have hf := rFloorG_c hC s.convN s.conv depth h1
  obtain ⟨y, hy⟩ : ∃ y : Nat, (pieceF s.conv depth).1 = (y : Int) := ⟨(pieceF s.conv depth).1.toNat, by omega⟩
  simp only [slopeOk, Bool.and_eq_true, decide_eq_true_eq] at hsl
  obtain ⟨f, rfl⟩ : ∃ f : Nat, fall = (f : Int) := ⟨fall.toNat, by omega⟩
  obtain ⟨n, rfl⟩ : ∃ n : Nat, len = (n : Int) := ⟨len.toNat, by omega⟩
  rw [carF, hy, Int.toNat_natCast, Int.toNat_natCast, Int.toNat_natCast, Nat.mul_assoc]
  rw [hy] at hf h3 h4
  have hyf : y * f ≤ 1099511627776 * 4194304 := Nat.mul_le_mul (by omega) (by omega)
  have hr := rRoot3_c hC y (y * f) n (by omega) (by omega) (by omega) (by omega)
  have hw : IntKind.i64.wrap ((y : Int) * (f : Int)) = ((y * f : Nat) : Int) := wrap_i64 (by push_cast; rfl) (by omega)
  obtain ⟨N, hN⟩ : ∃ N, N = rootN (y * (y * f) / n) := ⟨_, rfl⟩
  rw [← hN] at hr ⊢
  obtain ⟨g, hg⟩ : ∃ g, g = y * f := ⟨_, rfl⟩
  rw [← hg] at hr hw
  refine start hC (nf := N50_ref28_Carried) rfl rfl ?_
  simp [N50_ref28_Carried, secC]
  refine callW_of hf (.inl rfl) ?_
  simp [hw]
  refine callW_of hr (.inl rfl) ?_
  simp
theorem rDepth_c (s : Sec) (flow fall len : Int) : C 197 [.agg (secC s), .int .i64 flow, .int .i64 fall, .int .i64 len] (.tup [.int .i64 (depthR s flow fall len).1, .int .i64 (depthR s flow fall len).2]) [] := by
  obtain ⟨r, hr⟩ : ∃ r, r = depthR s flow fall len := ⟨_, rfl⟩
  rw [← hr]
  unfold depthR at hr
  have hvc := rRight_c hC s
  have hsl := rSlope_c hC fall len
  have hcc := fun (m : Int) (hv : secValid s = true) (hs : slopeOk fall len = true) => rCarriedG_c hC s m fall len hv hs
  simp only [secC] at hvc hcc
  refine start hC (nf := N197_ref28_Depth) rfl rfl ?_
  simp [N197_ref28_Depth, secC]
  refine callW_of hvc (.inl rfl) ?_
  cases hv : secValid s
  · rw [if_neg (by simp [hv])] at hr
    simp [hr]
  rw [if_pos hv] at hr
  have hh : 1 ≤ s.height ∧ s.height ≤ 32768 := by
    simp only [secValid, Bool.and_eq_true, decide_eq_true_eq] at hv
    omega
  obtain ⟨H, hH⟩ : ∃ H : Nat, s.height = H := ⟨s.height.toNat, by omega⟩
  simp
  refine brB_of (fun c1 => ?_) (fun c1 => ?_) <;> simp at c1 <;> simp [c1]
  · rw [if_neg (by omega)] at hr
    simp [hr]
  refine brB_of (fun c2 => ?_) (fun c2 => ?_) <;> simp at c2 <;> simp [c2]
  · rw [if_neg (by omega)] at hr
    simp [hr]
  refine callW_of hsl (.inl rfl) ?_
  cases hs : slopeOk fall len
  · rw [if_neg (by simp [hs])] at hr
    simp [hr]
  rw [if_pos ⟨by omega, by omega, hs⟩] at hr
  simp
  have hcc := fun m => hcc m hv hs
  refine callW_of (hcc s.height) (.inl rfl) ?_
  simp
  refine brB_of (fun c3 => ?_) (fun c3 => ?_) <;> simp at c3 <;> simp [c3]
  · rw [if_pos c3] at hr
    simp [hr]
  rw [if_neg (by omega)] at hr
  obtain ⟨L, hL⟩ : ∃ L, L = bis (enoughD s flow fall len) 40 0 s.height.toNat := ⟨_, rfl⟩
  rw [← hL] at hr
  have hl : L = bis (enoughD s flow fall len) 40 0 H := by rw [hL, hH]; rfl
  simp only [hH] at hcc ⊢
  refine ⟨indW_of (by decide +kernel), ?_⟩
  refine loop_of (Nat × Nat × Nat) (fun z => [(1, .int .i64 flow), (2, .int .i64 fall), (3, .int .i64 len), (4, .ptr [.str s.name, .int .i64 H, .int .i64 s.price, slx s.areaN (s.area.map knD), slx s.convN (s.conv.map knD)]), (10, .int .i64 z.2.1), (11, .int .i64 z.2.2)])
    (fun z => z.2.1 ≤ z.2.2 ∧ z.2.2 ≤ H ∧ z.2.2 - z.2.1 < 2 ^ z.1 ∧ bis (enoughD s flow fall len) z.1 z.2.1 z.2.2 = L) (fun z => z.2.2 - z.2.1) (40, 0, H) ⟨by simp, by simp, by simp; omega, by rw [hl]⟩ (by simp) ?_
  rintro ⟨f, lo, hi⟩ ⟨i1, i2, i3, i4⟩
  simp only at i1 i2 i3 i4
  simp
  refine brB_of (fun c => ?_) (fun c => ?_) <;> simp at c <;> simp [c]
  · obtain ⟨f', _, j2, j3, j4⟩ := bis_step (p := enoughD s flow fall len) c i3
    obtain ⟨sm, hsm⟩ : ∃ sm, sm = lo + hi := ⟨_, rfl⟩
    rw [← hsm] at j2 j3 j4
    obtain ⟨m, hm⟩ : ∃ m, m = sm / 2 := ⟨_, rfl⟩
    rw [← hm] at j2 j3 j4
    have e2 : IntKind.wrap .i64 ((lo : Int) + (hi : Int)) = (sm : Int) := wrap_i64 (by omega) (by omega)
    have e3 : Int.tdiv (sm : Int) 2 = (m : Int) := by rw [hm]; exact tdivN sm 2
    have e4 : IntKind.wrap .i64 (m : Int) = (m : Int) := wrap_i64 rfl (by omega)
    have e5 : IntKind.wrap .i64 ((m : Int) + 1) = ((m + 1 : Nat) : Int) := wrap_i64 (by omega) (by omega)
    rw [i4] at j4
    simp [e2, e3, e4]
    refine callW_of (hcc m) (.inl rfl) ?_
    simp
    refine brB_of (fun c3 => ?_) (fun c3 => ?_) <;> simp at c3 <;> simp [c3]
    · rw [if_pos (by simp [enoughD, c3])] at j4
      exact ⟨f', lo, m, ⟨by omega, by omega, j2, j4.symm⟩, by omega, by omega, by omega⟩
    · rw [if_neg (by simp [enoughD]; omega)] at j4
      simp [e5]
      exact ⟨f', m + 1, hi, ⟨by omega, by omega, j3, j4.symm⟩, by omega, by omega, by omega⟩
  · rw [bis_end _ _ _ _ c] at i4
    subst i4
    simp [hr]
end Go.Gv

set_option linter.unusedSimpArgs false
namespace Go.Gv
variable {C : CC} (hC : Closed prog C)
include hC
set_option maxRecDepth 8000 in
set_option maxHeartbeats 4000000 in
theorem rDivW_c (x b : Nat) (hx : x < 340282366920938463463374607431768211456) (hb0 : 0 < b) (hb : b < 170141183460469231731687303715884105728) : C 82 [.agg [.int .u64 ((x / 18446744073709551616 : Nat) : Int), .int .u64 ((x % 18446744073709551616 : Nat) : Int)], .agg [.int .u64 ((b / 18446744073709551616 : Nat) : Int), .int .u64 ((b % 18446744073709551616 : Nat) : Int)]]
    (.tup [.agg [.int .u64 ((x / b / 18446744073709551616 : Nat) : Int), .int .u64 ((x / b % 18446744073709551616 : Nat) : Int)], .agg [.int .u64 ((x % b / 18446744073709551616 : Nat) : Int), .int .u64 ((x % b % 18446744073709551616 : Nat) : Int)]]) [] := by
  obtain ⟨xh, hxh⟩ : ∃ xh, xh = x / 18446744073709551616 := ⟨_, rfl⟩
  obtain ⟨xl, hxl⟩ : ∃ xl, xl = x % 18446744073709551616 := ⟨_, rfl⟩
  obtain ⟨bh, hbh⟩ : ∃ bh, bh = b / 18446744073709551616 := ⟨_, rfl⟩
  obtain ⟨bl, hbl⟩ : ∃ bl, bl = b % 18446744073709551616 := ⟨_, rfl⟩
  obtain ⟨yh, hyh⟩ : ∃ yh, yh = x / b / 18446744073709551616 := ⟨_, rfl⟩
  obtain ⟨yl, hyl⟩ : ∃ yl, yl = x / b % 18446744073709551616 := ⟨_, rfl⟩
  obtain ⟨zh, hzh⟩ : ∃ z, z = x % b / 18446744073709551616 := ⟨_, rfl⟩
  obtain ⟨zl, hzl⟩ : ∃ z, z = x % b % 18446744073709551616 := ⟨_, rfl⟩
  rw [← hxh, ← hxl, ← hyh, ← hyl, ← hzh, ← hzl, ← hbh, ← hbl]
  have hbb : bh * 18446744073709551616 + bl = b := by rw [hbh, hbl]; exact Nat.div_add_mod' _ _
  have hbl2 : bl < 18446744073709551616 := by rw [hbl]; exact Nat.mod_lt _ (by decide)
  have hxl2 : xl < 18446744073709551616 := by rw [hxl]; exact Nat.mod_lt _ (by decide)
  have h00 : (0 : Nat) < 18446744073709551616 := by decide
  have hxx : xh * 18446744073709551616 + xl = x := by rw [hxh, hxl]; exact Nat.div_add_mod' _ _
  have hS0 : DvS x b 0 (xh * 18446744073709551616 + xl) (0 * 18446744073709551616 + 0) (0 * 18446744073709551616 + 0) := by
    rw [hxx]
    have hpow : (2 : Nat) ^ 128 = 340282366920938463463374607431768211456 := by decide +kernel
    exact ⟨by omega, by simpa using hb0, x, by simp, by rw [Nat.sub_zero, hpow]; exact hx, by simp⟩
  refine start hC (nf := N82_ref03_Div) rfl rfl ?_
  simp [N82_ref03_Div]
  refine loop_of (Nat × Nat × Nat × Nat × Nat × Nat × Nat) (fun s => [(2, .adr (.r 10032) 0 0), (3, .ptr [.int .u64 bh, .int .u64 bl]), (4, .adr (.r 10064) 0 0), (5, .adr (.r 10080) 0 0), (6, .adr (.r 10096) 0 0), (7, .adr (.r 10112) 0 0), (8, .int .i64 s.1),
      (10032, .blk 2 [[.int .u64 s.2.1, .int .u64 s.2.2.1]]), (10064, .blk 2 [[.int .u64 0, .int .u64 0]]), (10080, .blk 2 [[.int .u64 0, .int .u64 0]]), (10096, .blk 2 [[.int .u64 s.2.2.2.1, .int .u64 s.2.2.2.2.1]]), (10112, .blk 2 [[.int .u64 s.2.2.2.2.2.1, .int .u64 s.2.2.2.2.2.2]])])
    (fun s => s.2.2.1 < 18446744073709551616 ∧ s.2.2.2.2.1 < 18446744073709551616 ∧ s.2.2.2.2.2.2 < 18446744073709551616 ∧ DvS x b s.1 (s.2.1 * 18446744073709551616 + s.2.2.1) (s.2.2.2.1 * 18446744073709551616 + s.2.2.2.2.1) (s.2.2.2.2.2.1 * 18446744073709551616 + s.2.2.2.2.2.2)) (fun s => 128 - s.1) (0, xh, xl, 0, 0, 0, 0) ⟨hxl2, h00, h00, hS0⟩ (by simp) ?_
  rintro ⟨i, ah, al, qh, ql, rh, rl⟩ ⟨hal, hql, hrl, hS⟩
  simp only at hal hql hrl hS
  simp
  refine brB_of (fun c => ?_) (fun c => ?_) <;> simp at c <;> simp [c]
  · have hrb := hS.2.1
    have hw1 : IntKind.wrap .i64 ((i : Int) + 1) = ((i + 1 : Nat) : Int) := wrap_i64 (by omega) (by omega)
    obtain ⟨g1, g2, g3⟩ := hS.step (by omega) hb0
    obtain ⟨A, hA⟩ : ∃ A, A = ah * 18446744073709551616 + al := ⟨_, rfl⟩
    obtain ⟨Q, hQ⟩ : ∃ Q, Q = qh * 18446744073709551616 + ql := ⟨_, rfl⟩
    obtain ⟨r, hr⟩ : ∃ r, r = rh * 18446744073709551616 + rl := ⟨_, rfl⟩
    rw [← hA] at g1 g3
    rw [← hQ] at g2 g3
    rw [← hr] at g3 hrb
    obtain ⟨t, ht⟩ : ∃ t, t = ah / 9223372036854775808 := ⟨_, rfl⟩
    have ht2 : A / 170141183460469231731687303715884105728 = t := by omega
    rw [ht2] at g3
    have ht1 : t ≤ 1 := by omega
    have hrh : rh / 9223372036854775808 = 0 := by omega
    obtain ⟨p, hp⟩ : ∃ p, p = 2 * A % 340282366920938463463374607431768211456 / 18446744073709551616 := ⟨_, rfl⟩
    obtain ⟨o, ho⟩ : ∃ o, o = 2 * A % 340282366920938463463374607431768211456 % 18446744073709551616 := ⟨_, rfl⟩
    have k1 := rShift_c hC ah al 0 t p o (by omega) (by omega) (by omega) (by omega) (by omega)
    obtain ⟨R, hR⟩ : ∃ R, R = 2 * r + t := ⟨_, rfl⟩
    obtain ⟨Rh, hRh⟩ : ∃ z, z = R / 18446744073709551616 := ⟨_, rfl⟩
    obtain ⟨Rl, hRl⟩ : ∃ z, z = R % 18446744073709551616 := ⟨_, rfl⟩
    have k2 := rShift_c hC rh rl t 0 Rh Rl (by omega) (by omega) (by omega) (by omega) (by omega)
    obtain ⟨u, hu⟩ : ∃ u, u = 2 * Q / 18446744073709551616 := ⟨_, rfl⟩
    obtain ⟨v, hv⟩ : ∃ v, v = 2 * Q % 18446744073709551616 := ⟨_, rfl⟩
    have k3 := rShift_c hC qh ql 0 0 u v (by omega) (by omega) (by omega) (by omega) (by omega)
    rw [← hR] at g3
    have k4 := rLess_c hC Rh Rl bh bl
    have hlt : decide (Rh < bh ∨ (Rh = bh ∧ Rl < bl)) = decide (R < b) := by
      rw [Bool.eq_iff_iff, decide_eq_true_eq, decide_eq_true_eq]
      omega
    rw [hlt] at k4
    simp only [Int.natCast_zero] at k1 k3
    have hsh : Int.fdiv (ah : Int) (2 ^ min 63 IntKind.u64.bits) = (t : Int) := by rw [shr63, ht]
    have hsh0 : Int.fdiv (rh : Int) (2 ^ min 63 IntKind.u64.bits) = 0 := by rw [shr63, hrh]; rfl
    have e1 : p * 18446744073709551616 + o = 2 * A % 340282366920938463463374607431768211456 := by rw [hp, ho]; exact Nat.div_add_mod' _ _
    have e2 : u * 18446744073709551616 + v = 2 * Q := by rw [hu, hv]; exact Nat.div_add_mod' _ _
    have e3 : Rh * 18446744073709551616 + Rl = R := by rw [hRh, hRl]; exact Nat.div_add_mod' _ _
    simp [hsh]
    refine callW_of k1 (.inl rfl) ?_
    simp [hsh0]
    refine callW_of k2 (.inl rfl) ?_
    simp
    refine callW_of k3 (.inl rfl) ?_
    simp
    refine callW_of k4 (.inl rfl) ?_
    by_cases d : R < b
    · simp [d, hw1]
      obtain ⟨m1, m2⟩ := g3 0 R (2 * A % 340282366920938463463374607431768211456) (by omega) (by omega) rfl
      refine ⟨i + 1, p, o, u, v, Rh, Rl, ⟨by clear g3 m1 m2; omega, by clear g3 m1 m2; omega, by clear g3 m1 m2; omega, ?_⟩, by omega, ?_⟩
      · rw [e1, e2, e3]; exact m1
      · simp
    · simp [d, hw1]
      obtain ⟨r3, hr3⟩ : ∃ r3, r3 = R - b := ⟨_, rfl⟩
      obtain ⟨r3h, hr3h⟩ : ∃ z, z = r3 / 18446744073709551616 := ⟨_, rfl⟩
      obtain ⟨r3l, hr3l⟩ : ∃ z, z = r3 % 18446744073709551616 := ⟨_, rfl⟩
      obtain ⟨m1, m2⟩ := g3 1 r3 (2 * A % 340282366920938463463374607431768211456) (by omega) (by omega) rfl
      have hr3l2 : r3l < 18446744073709551616 := by rw [hr3l]; exact Nat.mod_lt _ (by decide)
      have e4 : r3h * 18446744073709551616 + r3l = r3 := by rw [hr3h, hr3l]; exact Nat.div_add_mod' _ _
      have hRl2 : Rl < 18446744073709551616 := by rw [hRl]; exact Nat.mod_lt _ (by decide)
      have k5 := rMinus_c hC Rh Rl bh bl r3h r3l (by clear g3 m1 m2 hp ho hu hv hS g1 g2 k1 k2 k3 k4 e1 e2; omega) hRl2 hbl2 hr3l2 (by rw [e4, hbb, e3, hr3]; exact Nat.sub_add_cancel (Nat.le_of_not_lt d))
      have hve : v % 2 = 0 ∧ v < 18446744073709551616 := by
        clear g3 m1 m2 k1 k2 k3 k4 k5 hS e1 e2 hp ho g1 hA
        omega
      have hv1 : IntKind.u64.wrap ((v : Int) + 1) = ((v + 1 : Nat) : Int) := uw (.inl (by push_cast; rfl)) (by clear g3 m1 m2 hp ho hu hv; omega)
      refine callW_of k5 (.inl rfl) ?_
      simp [hv1, hw1]
      refine ⟨i + 1, p, o, u, v + 1, r3h, r3l, ⟨by clear g3 m1 m2 hu hv; omega, by clear g3 m1 m2 hp ho hu hv; omega, hr3l2, ?_⟩, by omega, ?_⟩
      · rw [e1, ← Nat.add_assoc, e2, e4]; exact m1
      · simp
  · obtain rfl : i = 128 := by have := hS.1; omega
    obtain ⟨e1, e2⟩ := hS.last
    refine ⟨indW_of (by decide +kernel), ?_⟩
    obtain ⟨Y, hY⟩ : ∃ Y, Y = x / b := ⟨_, rfl⟩
    obtain ⟨Z, hZ⟩ : ∃ Z, Z = x % b := ⟨_, rfl⟩
    rw [← hY] at e1 hyh hyl
    rw [← hZ] at e2 hzh hzl
    have e3 : qh = yh := by omega
    have e4 : ql = yl := by omega
    have e5 : rh = zh := by omega
    have e6 : rl = zl := by omega
    subst e3 e4 e5 e6
    simp
end Go.Gv

set_option linter.unusedSimpArgs false
namespace Go.Gv
def curveR (l : List (Int × Int)) : Bool := tableValid l && decide (0 ≤ l[0]!.1) && decide ((lastK l).1 ≤ 4194304) && decide (0 ≤ l[0]!.2) && decide ((lastK l).2 ≤ 1099511627776)
def kindR (l : Lnk) : Bool :=
  if l.kind = 1 then lowHigh l.len 1 16777216 && isName l.sect && decide (l.width = 0) && decide (l.height = 0) && decide (l.curve.length = 0)
  else if l.kind = 2 then decide (l.len = 0) && decide (l.down = 0) && decide (l.sect = []) && lowHigh l.width 1 1048576 && decide (l.height = 0) && decide (l.curve.length = 0)
  else if l.kind = 3 then decide (l.len = 0) && decide (l.down = 0) && decide (l.sect = []) && lowHigh l.width 1 32768 && lowHigh l.height 1 32768 && decide (l.curve.length = 0)
  else if l.kind = 4 then decide (l.len = 0) && decide (l.down < l.up) && decide (l.sect = []) && decide (l.width = 0) && decide (l.height = 0) && curveR l.curve
  else false
def linkR (l : Lnk) : Bool := isName l.name && isName l.src && isName l.dst && !decide (l.src = l.dst) && lvlOk l.up && lvlOk l.down && kindR l
variable {C : CC} (hC : Closed prog C)
include hC
theorem rLevel_c (n : Int) : C 199 [.int .i64 n] (.bool (lvlOk n)) [] := by
  refine start hC (nf := N199_ref26_level) rfl rfl ?_
  simp [N199_ref26_level, lvlOk]
  refine brB_of (fun h => ?_) (fun h => ?_) <;> simp at h <;> simp [h] <;> omega
theorem rWithin_c (n a : Int) : C 200 [.int .i64 n, .int .i64 a] (.bool (lowHigh n 1 a)) [] := by
  refine start hC (nf := N200_ref26_within) rfl rfl ?_
  simp [N200_ref26_within, lowHigh]
  refine brB_of (fun h => ?_) (fun h => ?_) <;> simp at h <;> simp [h] <;> omega
theorem rCurve_c (b : Bool) (t : List (Int × Int)) : C 201 [slx b (t.map knD)] (.bool (curveR t)) [] := by
  refine start hC (nf := N201_ref26_curve) rfl rfl ?_
  simp [N201_ref26_curve]
  refine callW_of (rTable_c hC b t) (.inl rfl) ?_
  cases hv : tableValid t
  · simp [curveR, hv]
  obtain ⟨l1, l2⟩ := valid_len hv
  obtain ⟨n, hn⟩ : ∃ n, n + 1 = t.length := ⟨t.length - 1, by omega⟩
  have e1 : IntKind.wrap .i64 ((t.length : Int) - 1) = (n : Int) := wrap_i64 (by omega) (by omega)
  have hnl : n < t.length := by omega
  have h0 : 0 < t.length := by omega
  have e0 : t[0]! = t[0] := getElem!_pos t 0 h0
  rw [curveR, hv, e0, lastK_get hn]
  simp [h0, knD]
  refine brB_of (fun c1 => ?_) (fun c1 => ?_) <;> simp at c1 <;> simp [c1, e1, hnl, knD, h0]
  · refine brB_of (fun c2 => ?_) (fun c2 => ?_) <;> simp at c2 <;> simp [c2, e1, hnl, knD, h0]
    · refine brB_of (fun c3 => ?_) (fun c3 => ?_) <;> simp at c3 <;> simp [c3, e1, hnl, knD, h0]
      · omega
      · intro _ _ _; omega
    · omega
  · omega
theorem linkR_c (l : Lnk) : C 194 [.agg (lnkC l)] (.bool (linkR l)) [] := by
  have k1 := rIsName_c hC l.name
  have k2 := rIsName_c hC l.src
  have k3 := rIsName_c hC l.dst
  have k4 := rLevel_c hC l.up
  have k5 := rLevel_c hC l.down
  have k6 := rIsName_c hC l.sect
  obtain ⟨r, hr⟩ : ∃ r, r = linkR l := ⟨_, rfl⟩
  rw [← hr]
  unfold linkR at hr
  refine start hC (nf := N194_ref26_RightLink) rfl rfl ?_
  simp [N194_ref26_RightLink, lnkC]
  refine callW_of k1 (.inl rfl) ?_
  cases h1 : isName l.name
  · simp [hr, h1]
  simp
  refine callW_of k2 (.inl rfl) ?_
  cases h2 : isName l.src
  · simp [hr, h2]
  simp
  refine callW_of k3 (.inl rfl) ?_
  cases h3 : isName l.dst
  · simp [hr, h3]
  simp
  refine brB_of (fun h4 => ?_) (fun h4 => ?_) <;> simp at h4 <;> simp [h4]
  · simp [hr, h4]
  refine callW_of k4 (.inl rfl) ?_
  cases h5 : lvlOk l.up
  · simp [hr, h5]
  simp
  refine callW_of k5 (.inl rfl) ?_
  cases h6 : lvlOk l.down
  · simp [hr, h6]
  simp
  rw [h1, h2, h3, decide_eq_false h4, h5, h6] at hr
  simp only [Bool.true_and, Bool.not_false] at hr
  unfold kindR at hr
  clear k1 k2 k3 k4 k5 h1 h2 h3 h4 h5 h6
  refine brB_of (fun h7 => ?_) (fun h7 => ?_) <;> simp at h7 <;> simp [h7]
  · rw [if_pos h7] at hr
    refine callW_of (rWithin_c hC l.len 16777216) (.inl rfl) ?_
    cases a1 : lowHigh l.len 1 16777216
    · simp [hr, a1]
    simp
    refine callW_of k6 (.inl rfl) ?_
    cases a2 : isName l.sect
    · simp [hr, a2]
    simp
    refine brB_of (fun a3 => ?_) (fun a3 => ?_) <;> simp at a3 <;> simp [a3]
    rotate_left
    · simp [hr, a3]
    refine brB_of (fun a4 => ?_) (fun a4 => ?_) <;> simp at a4 <;> simp [a4]
    rotate_left
    · simp [hr, a4]
    simp [hr, a1, a2, a3, a4]
  rw [if_neg h7] at hr
  refine brB_of (fun h8 => ?_) (fun h8 => ?_) <;> simp at h8 <;> simp [h8]
  · rw [if_pos h8] at hr
    refine brB_of (fun a1 => ?_) (fun a1 => ?_) <;> simp at a1 <;> simp [a1]
    rotate_left
    · simp [hr, a1]
    refine brB_of (fun a2 => ?_) (fun a2 => ?_) <;> simp at a2 <;> simp [a2]
    rotate_left
    · simp [hr, a2]
    refine brB_of (fun a3 => ?_) (fun a3 => ?_) <;> simp at a3 <;> simp [a3]
    rotate_left
    · simp [hr, a3]
    refine callW_of (rWithin_c hC l.width 1048576) (.inl rfl) ?_
    cases a4 : lowHigh l.width 1 1048576
    · simp [hr, a4]
    simp
    refine brB_of (fun a5 => ?_) (fun a5 => ?_) <;> simp at a5 <;> simp [a5]
    rotate_left
    · simp [hr, a5]
    simp [hr, a1, a2, a3, a4, a5]
  rw [if_neg h8] at hr
  refine brB_of (fun h9 => ?_) (fun h9 => ?_) <;> simp at h9 <;> simp [h9]
  · rw [if_pos h9] at hr
    refine brB_of (fun a1 => ?_) (fun a1 => ?_) <;> simp at a1 <;> simp [a1]
    rotate_left
    · simp [hr, a1]
    refine brB_of (fun a2 => ?_) (fun a2 => ?_) <;> simp at a2 <;> simp [a2]
    rotate_left
    · simp [hr, a2]
    refine brB_of (fun a3 => ?_) (fun a3 => ?_) <;> simp at a3 <;> simp [a3]
    rotate_left
    · simp [hr, a3]
    refine callW_of (rWithin_c hC l.width 32768) (.inl rfl) ?_
    cases a4 : lowHigh l.width 1 32768
    · simp [hr, a4]
    simp
    refine callW_of (rWithin_c hC l.height 32768) (.inl rfl) ?_
    cases a5 : lowHigh l.height 1 32768
    · simp [hr, a5]
    simp [hr, a1, a2, a3, a4, a5]
  rw [if_neg h9] at hr
  refine brB_of (fun h10 => ?_) (fun h10 => ?_) <;> simp at h10 <;> simp [h10]
  · rw [if_pos h10] at hr
    refine brB_of (fun a1 => ?_) (fun a1 => ?_) <;> simp at a1 <;> simp [a1]
    rotate_left
    · simp [hr, a1]
    refine brB_of (fun a2 => ?_) (fun a2 => ?_) <;> simp at a2 <;> simp [a2]
    rotate_left
    · simp [hr, show ¬ l.down < l.up by omega]
    refine brB_of (fun a3 => ?_) (fun a3 => ?_) <;> simp at a3 <;> simp [a3]
    rotate_left
    · simp [hr, a3]
    refine brB_of (fun a4 => ?_) (fun a4 => ?_) <;> simp at a4 <;> simp [a4]
    rotate_left
    · simp [hr, a4]
    refine brB_of (fun a5 => ?_) (fun a5 => ?_) <;> simp at a5 <;> simp [a5]
    rotate_left
    · simp [hr, a5]
    refine callW_of (rCurve_c hC l.curveN l.curve) (.inl rfl) ?_
    simp [hr, a1, a2, a3, a4, a5]
  · rw [if_neg h10] at hr
    simp [hr]
end Go.Gv

set_option linter.unusedSimpArgs false
namespace Go.Gv
def ceilN (x b : Nat) : Nat := if x % b = 0 then x / b else x / b + 1
def lostN (k f n : Nat) : Int × Int := if f = 0 then (0, 0) else if k = 0 then (0, 16) else if 1073741824 < ceilN (f * f * n) (k * k) then (0, 5) else (ceilN (f * f * n) (k * k), 0)
def lostF (l : Lnk) (s : Sec) (flow : Int) : Int × Int := lostN (lastK s.conv).2.toNat flow.toNat l.len.toNat
variable {C : CC} (hC : Closed prog C)
include hC
theorem rtimes_c (x n : Nat) (hn : n < 18446744073709551616) (hx : x < 340282366920938463463374607431768211456) (hxk : x * n < 340282366920938463463374607431768211456) : C 195 [wideD x, .int .u64 n] (wideD (x * n)) [] := by
  have e := mulwide (x := x) (k := n)
  obtain ⟨h, hh⟩ : ∃ h, h = x / 18446744073709551616 := ⟨_, rfl⟩
  obtain ⟨l, hl⟩ : ∃ l, l = x % 18446744073709551616 := ⟨_, rfl⟩
  have hh' : h < 18446744073709551616 := by omega
  have hl' : l < 18446744073709551616 := by omega
  rw [← hh, ← hl] at e
  have k2 := rMul_c hC l n hl' hn
  rw [wideD] at k2
  obtain ⟨p, hp⟩ : ∃ p, p = l * n / 18446744073709551616 := ⟨_, rfl⟩
  obtain ⟨r, hr⟩ : ∃ r, r = l * n % 18446744073709551616 := ⟨_, rfl⟩
  rw [← hp, ← hr] at e k2
  have hq' : r < 18446744073709551616 := by omega
  obtain ⟨z, hz⟩ : ∃ z, z = h * n := ⟨_, rfl⟩
  obtain ⟨y, hy⟩ : ∃ y, y = x * n := ⟨_, rfl⟩
  rw [← hz, ← hy] at e
  rw [← hy] at hxk ⊢
  obtain ⟨t, ht⟩ : ∃ t, t = z + p := ⟨_, rfl⟩
  rw [← ht] at e
  have e1 : y / 18446744073709551616 = t := by omega
  have e2 : y % 18446744073709551616 = r := by omega
  have ht' : t < 18446744073709551616 := by omega
  have et : IntKind.u64.wrap ((p : Int) + IntKind.u64.wrap ((h : Int) * (n : Int))) = (t : Int) := by
    rw [mulN h n, ← hz, wrapU, wrapU]
    clear hxk hx e e1 e2 hr hp hl hh hy hz
    omega
  rw [wideD, wideD, e1, e2, ← hh, ← hl]
  clear e1 e2 e hh hl hx hxk hp hr hz hy ht
  refine start hC (nf := N195_ref31_times) rfl rfl ?_
  simp [N195_ref31_times]
  refine callW_of k2 (.inr rfl) ?_
  simp [et]
theorem rPlus1_c (q : Nat) (h : q + 1 < 340282366920938463463374607431768211456) : C 83 [wideD q, .agg [.int .u64 0, .int .u64 1]] (wideD (q + 1)) [] := by
  obtain ⟨qh, hqh⟩ : ∃ z, z = q / 18446744073709551616 := ⟨_, rfl⟩
  obtain ⟨ql, hql⟩ : ∃ z, z = q % 18446744073709551616 := ⟨_, rfl⟩
  obtain ⟨rh, hrh⟩ : ∃ z, z = (q + 1) / 18446744073709551616 := ⟨_, rfl⟩
  obtain ⟨rl, hrl⟩ : ∃ z, z = (q + 1) % 18446744073709551616 := ⟨_, rfl⟩
  rw [wideD, wideD, ← hqh, ← hql, ← hrh, ← hrl]
  have w1 : IntKind.u64.wrap ((ql : Int) + 1) = (rl : Int) := uw (by omega) (by omega)
  have w2 : IntKind.u64.wrap (qh : Int) = (qh : Int) := wrapN qh (by omega)
  have w3 : rl < ql → IntKind.u64.wrap ((qh : Int) + 1) = (rh : Int) := fun h => uw (by omega) (by omega)
  have w4 : ¬ rl < ql → qh = rh := fun h => by omega
  refine start hC (nf := N83_ref03_Plus) rfl rfl ?_
  simp [N83_ref03_Plus, w1, w2]
  refine brB_of (fun c => ?_) (fun c => ?_) <;> simp at c <;> simp [c]
  · exact w3 c
  · rw [w4 (by omega)]
theorem lost_c (l : Lnk) (s : Sec) (flow : Int) (hv : secValid s = true) (hl : 1 ≤ l.len ∧ l.len ≤ 16777216) (hf : 0 ≤ flow ∧ flow ≤ 1099511627776) : C 191 [.agg (lnkC l), .agg (secC s), .int .i64 flow] (.tup [.int .i64 (lostF l s flow).1, .int .i64 (lostF l s flow).2]) [] := by
  obtain ⟨c1, c2, c3, c4⟩ := conv_last hv
  obtain ⟨l1, l2⟩ := valid_len c1
  obtain ⟨m, hm⟩ : ∃ m, m + 1 = s.conv.length := ⟨s.conv.length - 1, by omega⟩
  have hml : m < s.conv.length := by omega
  have e1 : IntKind.wrap .i64 ((s.conv.length : Int) - 1) = (m : Int) := wrap_i64 (by omega) (by omega)
  obtain ⟨k, hk⟩ : ∃ k : Nat, (lastK s.conv).2 = k := ⟨(lastK s.conv).2.toNat, by omega⟩
  obtain ⟨f, rfl⟩ : ∃ f : Nat, flow = f := ⟨flow.toNat, by omega⟩
  obtain ⟨n, hn⟩ : ∃ n : Nat, l.len = n := ⟨l.len.toNat, by omega⟩
  have hk' : s.conv[m].2 = k := by rw [← hk, lastK_get hm]
  obtain ⟨r, hr⟩ : ∃ r, r = lostF l s f := ⟨_, rfl⟩
  rw [← hr]
  rw [lostF, hk, hn] at hr
  simp only [Int.toNat_natCast] at hr
  unfold lostN at hr
  have g1 : f * f * n ≤ 1298074214633706907132624082305024 := sq_lt (by omega) (by omega)
  have g2 : f * f ≤ 1208925819614629174706176 := Nat.mul_le_mul (show f ≤ 1099511627776 by omega) (show f ≤ 1099511627776 by omega)
  have g3 : k * k ≤ 1208925819614629174706176 := Nat.mul_le_mul (show k ≤ 1099511627776 by omega) (show k ≤ 1099511627776 by omega)
  have wf : IntKind.u64.wrap (f : Int) = (f : Int) := wrapN f (by omega)
  have wn : IntKind.u64.wrap (n : Int) = (n : Int) := wrapN n (by omega)
  have wk : IntKind.u64.wrap (k : Int) = (k : Int) := wrapN k (by omega)
  have k1 := rMul_c hC f f (by omega) (by omega)
  have k2 := rtimes_c hC (f * f) n (by omega) (by omega) (by omega)
  have k3 := rMul_c hC k k (by omega) (by omega)
  obtain ⟨a1, a2, e2⟩ : ∃ a b : Int, wideD (f * f) = .agg [.int .u64 a, .int .u64 b] := ⟨_, _, rfl⟩
  obtain ⟨b1, b2, e3⟩ : ∃ a b : Int, wideD (f * f * n) = .agg [.int .u64 a, .int .u64 b] := ⟨_, _, rfl⟩
  obtain ⟨d1, d2, e4⟩ : ∃ a b : Int, wideD (k * k) = .agg [.int .u64 a, .int .u64 b] := ⟨_, _, rfl⟩
  refine start hC (nf := N191_ref31_Lost) rfl rfl ?_
  simp [N191_ref31_Lost, lnkC, secC]
  refine brB_of (fun c => ?_) (fun c => ?_) <;> simp at c <;> simp [c]
  · rw [if_pos (by omega)] at hr
    simp [hr]
  rw [if_neg (by omega)] at hr
  simp [e1, hml, knD, hk']
  refine brB_of (fun c5 => ?_) (fun c5 => ?_) <;> simp at c5 <;> simp [c5]
  · rw [if_pos (by omega)] at hr
    simp [hr]
  rw [if_neg (by omega)] at hr
  have hkk : 0 < k * k := Nat.mul_pos (by omega) (by omega)
  have k4 : C 82 [wideD (f * f * n), wideD (k * k)] (.tup [wideD (f * f * n / (k * k)), wideD (f * f * n % (k * k))]) [] := rDivW_c hC (f * f * n) (k * k) (by omega) hkk (by omega)
  obtain ⟨X, hX⟩ : ∃ X, X = f * f * n := ⟨_, rfl⟩
  obtain ⟨K, hK⟩ : ∃ K, K = k * k := ⟨_, rfl⟩
  rw [← hX] at g1 k2 k4 e3 hr
  rw [← hK] at g3 k3 k4 e4 hr hkk
  have hq := Nat.div_le_self X K
  have hz := Nat.mod_lt X hkk
  have k5 := rPlus1_c hC (X / K) (by omega)
  unfold ceilN at hr
  obtain ⟨Q, hQ⟩ : ∃ Q, Q = X / K := ⟨_, rfl⟩
  obtain ⟨Z, hZ⟩ : ∃ Z, Z = X % K := ⟨_, rfl⟩
  rw [← hQ] at k4 k5 hr hq
  rw [← hZ] at k4 hr hz
  rw [e2] at k1 k2
  rw [e3] at k2 k4
  rw [e4] at k3 k4
  obtain ⟨qh, hqh⟩ : ∃ z, z = Q / 18446744073709551616 := ⟨_, rfl⟩
  obtain ⟨ql, hql⟩ : ∃ z, z = Q % 18446744073709551616 := ⟨_, rfl⟩
  obtain ⟨rh, hrh⟩ : ∃ z, z = (Q + 1) / 18446744073709551616 := ⟨_, rfl⟩
  obtain ⟨rl, hrl⟩ : ∃ z, z = (Q + 1) % 18446744073709551616 := ⟨_, rfl⟩
  obtain ⟨zh, hzh⟩ : ∃ z, z = Z / 18446744073709551616 := ⟨_, rfl⟩
  obtain ⟨zl, hzl⟩ : ∃ z, z = Z % 18446744073709551616 := ⟨_, rfl⟩
  simp only [wideD] at k4 k5
  rw [← hqh, ← hql, ← hzh, ← hzl] at k4
  rw [← hqh, ← hql, ← hrh, ← hrl] at k5
  clear hX hK hQ e2 e3 e4 c1 c2 c3 c4 hk
  simp [wf, hn, wn]
  refine callW_of k1 (.inr rfl) ?_
  simp [wf, hn, wn]
  refine callW_of k2 (.inr rfl) ?_
  simp [wk]
  refine ⟨indW_of (by decide +kernel), ?_⟩
  refine callW_of k3 (.inr rfl) ?_
  simp
  refine callW_of k4 (.inr rfl) ?_
  simp
  refine ⟨indW_of (by decide +kernel), ?_⟩
  have z0 : (zh = 0 ∧ zl = 0) ↔ Z = 0 := by omega
  refine brB_of (fun c6 => ?_) (fun c6 => ?_) <;> simp at c6 <;> simp [c6]
  · have hz0 : ¬ Z = 0 := fun e => by have := z0.2 e; rcases c6 with h | h <;> omega
    rw [if_neg hz0] at hr
    refine callW_of k5 (.inr rfl) ?_
    simp
    refine brB_of (fun c7 => ?_) (fun c7 => ?_) <;> simp at c7 <;> simp [c7]
    · rw [if_pos (by omega)] at hr
      simp [hr]
    refine brB_of (fun c8 => ?_) (fun c8 => ?_) <;> simp at c8 <;> simp [c8]
    · rw [if_pos (by omega)] at hr
      simp [hr]
    · rw [if_neg (by omega)] at hr
      have w : IntKind.i64.wrap (rl : Int) = ((Q + 1 : Nat) : Int) := wrap_i64 (by omega) (by omega)
      simp [hr, w]
  · have hz0 : Z = 0 := z0.1 (by omega)
    rw [if_pos hz0] at hr
    refine brB_of (fun c7 => ?_) (fun c7 => ?_) <;> simp at c7 <;> simp [c7]
    · rw [if_pos (by omega)] at hr
      simp [hr]
    refine brB_of (fun c8 => ?_) (fun c8 => ?_) <;> simp at c8 <;> simp [c8]
    · rw [if_pos (by omega)] at hr
      simp [hr]
    · rw [if_neg (by omega)] at hr
      have w : IntKind.i64.wrap (ql : Int) = (Q : Int) := wrap_i64 (by omega) (by omega)
      simp [hr, w]
end Go.Gv

set_option linter.unusedSimpArgs false
namespace Go.Gv
def grI (a b : Int) : Int := if b < a then a else b
def givenE (l : Lnk) (s : Sec) : Int := if linkR l && secValid s then (if l.kind = 1 then (if l.sect = s.name then 0 else 25) else 11) else 1
def highR (l : Lnk) (s : Sec) (flow level : Int) : Int × Int :=
  if (lostF l s flow).2 = 0 then (if 1099511627776 < grI (l.up + s.height) (level + (lostF l s flow).1) then (0, 5) else (grI (l.up + s.height) (level + (lostF l s flow).1), 0)) else (0, (lostF l s flow).2)
def aboveR (l : Lnk) (s : Sec) (flow level : Int) : Int × Int :=
  if (depthR s flow (fallF l) l.len).2 = 0 ∧ level < l.down + s.height then (grI (l.up + (depthR s flow (fallF l) l.len).1) level, 0) else highR l s flow level
def upR (l : Lnk) (s : Sec) (flow level : Int) : Int × Int :=
  if givenE l s = 0 then (if l.up < l.down then (0, 23) else if lowHigh flow 0 1099511627776 && lowHigh level (-4194304) 1099511627776 then aboveR l s flow level else (0, 2)) else (0, givenE l s)
def lossR (l : Lnk) (s : Sec) (flow : Int) : Int × Int :=
  if givenE l s = 0 then (if lowHigh flow 0 1099511627776 then lostF l s flow else (0, 2)) else (0, givenE l s)
theorem depthR_range {s : Sec} (hv : secValid s = true) (flow fall len : Int) : 0 ≤ (depthR s flow fall len).1 ∧ (depthR s flow fall len).1 ≤ s.height := by
  have hh : 1 ≤ s.height ∧ s.height ≤ 32768 := by
    simp only [secValid, Bool.and_eq_true, decide_eq_true_eq] at hv
    omega
  have hb := bis_range (enoughD s flow fall len) 40 0 s.height.toNat (by omega)
  unfold depthR
  rw [if_pos hv]
  split
  · split
    · simp only; omega
    · simp only; omega
  · simp only; omega
theorem lostN_range (k f n : Nat) : 0 ≤ (lostN k f n).1 ∧ (lostN k f n).1 ≤ 1073741824 := by
  unfold lostN
  split
  · simp
  split
  · simp
  split
  · simp
  · simp only; omega
theorem givenE_zero {l : Lnk} {s : Sec} (h : givenE l s = 0) : secValid s = true ∧ 1 ≤ l.len ∧ l.len ≤ 16777216 ∧ lvlOk l.up = true ∧ lvlOk l.down = true := by
  unfold givenE at h
  split at h
  · rename_i h1
    rw [Bool.and_eq_true] at h1
    obtain ⟨h1, h2⟩ := h1
    split at h
    · rename_i hk
      simp only [linkR, kindR, hk, if_true, Bool.and_eq_true, lowHigh, decide_eq_true_eq] at h1
      obtain ⟨⟨⟨_, h5⟩, h6⟩, ⟨⟨⟨h7, _⟩, _⟩, _⟩, _⟩ := h1
      exact ⟨h2, h7.1, h7.2, h5, h6⟩
    · omega
  · omega
variable {C : CC} (hC : Closed prog C)
include hC
theorem isFlow_c (n : Int) : C 190 [.int .i64 n] (.bool (lowHigh n 0 1099511627776)) [] := by
  refine start hC (nf := N190_ref31_IsFlow) rfl rfl ?_
  simp [N190_ref31_IsFlow, lowHigh]
  refine brB_of (fun h => ?_) (fun h => ?_) <;> simp at h <;> simp [h] <;> omega
theorem isLevel_c (n : Int) : C 192 [.int .i64 n] (.bool (lowHigh n (-4194304) 1099511627776)) [] := by
  refine start hC (nf := N192_ref31_IsLevel) rfl rfl ?_
  simp [N192_ref31_IsLevel, lowHigh]
  refine brB_of (fun h => ?_) (fun h => ?_) <;> simp at h <;> simp [h] <;> omega
theorem greater_c (a b : Int) : C 198 [.int .i64 a, .int .i64 b] (.int .i64 (grI a b)) [] := by
  refine start hC (nf := N198_ref31_greater) rfl rfl ?_
  simp [N198_ref31_greater, grI]
  refine brB_of (fun h => ?_) (fun h => ?_) <;> simp at h <;> simp [h]
  intro _; omega
theorem rFall_c (l : Lnk) (h : -9223372036854775808 ≤ l.up - l.down ∧ l.up - l.down < 9223372036854775808) : C 196 [.agg (lnkC l)] (.int .i64 (fallF l)) [] := by
  have w : IntKind.wrap .i64 (l.up - l.down) = l.up - l.down := wrap_i64 rfl h
  refine start hC (nf := N196_ref30_Fall) rfl rfl ?_
  simp [N196_ref30_Fall, lnkC, w, fallF]
  refine brB_of (fun h => ?_) (fun h => ?_) <;> simp at h <;> simp [h]
  rw [w, if_neg (by omega)]
theorem given_c (l : Lnk) (s : Sec) : C 189 [.agg (lnkC l), .agg (secC s)] (.int .i64 (givenE l s)) [] := by
  have k1 := linkR_c hC l
  have k2 := rRight_c hC s
  obtain ⟨r, hr⟩ : ∃ r, r = givenE l s := ⟨_, rfl⟩
  rw [← hr]
  unfold givenE at hr
  simp only [lnkC, secC] at k1 k2
  refine start hC (nf := N189_ref31_Given) rfl rfl ?_
  simp [N189_ref31_Given, lnkC, secC]
  refine callW_of k1 (.inl rfl) ?_
  cases h1 : linkR l
  · simp [hr, h1]
  simp
  refine callW_of k2 (.inl rfl) ?_
  cases h2 : secValid s
  · simp [hr, h2]
  simp
  refine brB_of (fun c => ?_) (fun c => ?_) <;> simp at c <;> simp [c]
  · simp [hr, h1, h2, c]
  refine brB_of (fun c3 => ?_) (fun c3 => ?_) <;> simp at c3 <;> simp [c3]
  · simp [hr, h1, h2, c, c3]
  · simp [hr, h1, h2, c, c3]
theorem aboveR_c (l : Lnk) (s : Sec) (flow level : Int) (hv : secValid s = true) (hl : 1 ≤ l.len ∧ l.len ≤ 16777216) (hu : lvlOk l.up = true) (hd : lvlOk l.down = true) (hf : 0 ≤ flow ∧ flow ≤ 1099511627776) (hlv : -4194304 ≤ level ∧ level ≤ 1099511627776) :
    C 193 [.agg (lnkC l), .agg (secC s), .int .i64 flow, .int .i64 level] (.tup [.int .i64 (aboveR l s flow level).1, .int .i64 (aboveR l s flow level).2]) [] := by
  have b1 : -4194304 ≤ l.up ∧ l.up ≤ 4194304 := by simpa [lvlOk] using hu
  have b2 : -4194304 ≤ l.down ∧ l.down ≤ 4194304 := by simpa [lvlOk] using hd
  have hh : 1 ≤ s.height ∧ s.height ≤ 32768 := by
    simp only [secValid, Bool.and_eq_true, decide_eq_true_eq] at hv
    omega
  have r1 := depthR_range hv flow (fallF l) l.len
  have r2 : 0 ≤ (lostF l s flow).1 ∧ (lostF l s flow).1 ≤ 1073741824 := lostN_range _ _ _
  have k1 := rFall_c hC l (by omega)
  have k2 := rDepth_c hC s flow (fallF l) l.len
  have k3 := lost_c hC l s flow hv hl hf
  obtain ⟨r, hr⟩ : ∃ r, r = aboveR l s flow level := ⟨_, rfl⟩
  rw [← hr]
  unfold aboveR highR at hr
  obtain ⟨d1, hd1⟩ : ∃ z, z = (depthR s flow (fallF l) l.len).1 := ⟨_, rfl⟩
  obtain ⟨d2, hd2⟩ : ∃ z, z = (depthR s flow (fallF l) l.len).2 := ⟨_, rfl⟩
  obtain ⟨x1, hx1⟩ : ∃ z, z = (lostF l s flow).1 := ⟨_, rfl⟩
  obtain ⟨x2, hx2⟩ : ∃ z, z = (lostF l s flow).2 := ⟨_, rfl⟩
  rw [← hd1, ← hd2] at k2 hr
  rw [← hx1, ← hx2] at k3 hr
  rw [← hd1] at r1
  rw [← hx1] at r2
  obtain ⟨fa, hfa⟩ : ∃ z, z = fallF l := ⟨_, rfl⟩
  rw [← hfa] at k1 k2
  clear hd1 hd2 hx1 hx2 hfa
  simp only [secC, lnkC] at k1 k2 k3
  have w2 : IntKind.wrap .i64 (l.down + s.height) = l.down + s.height := wrap_i64 rfl (by omega)
  have w3 : IntKind.wrap .i64 (l.up + s.height) = l.up + s.height := wrap_i64 rfl (by omega)
  have w4 : IntKind.wrap .i64 (level + x1) = level + x1 := wrap_i64 rfl (by omega)
  have w5 : IntKind.wrap .i64 (l.up + d1) = l.up + d1 := wrap_i64 rfl (by omega)
  have g1 := greater_c hC (l.up + d1) level
  have g2 := greater_c hC (l.up + s.height) (level + x1)
  refine start hC (nf := N193_ref31_Above) rfl rfl ?_
  simp [N193_ref31_Above, secC, lnkC]
  refine callW_of k1 (.inl rfl) ?_
  simp
  refine callW_of k2 (.inl rfl) ?_
  simp
  refine brB_of (fun c1 => ?_) (fun c1 => ?_) <;> simp at c1 <;> simp [c1]
  · simp [w2]
    refine brB_of (fun c2 => ?_) (fun c2 => ?_) <;> simp at c2 <;> simp [c2]
    · rw [if_pos ⟨c1, c2⟩] at hr
      simp [w5]
      refine callW_of g1 (.inl rfl) ?_
      simp [hr]
    · rw [if_neg (by omega)] at hr
      refine callW_of k3 (.inl rfl) ?_
      simp
      refine brB_of (fun g => ?_) (fun g => ?_) <;> simp at g <;> simp [g]
      · rw [if_neg g] at hr
        simp [hr]
      rw [if_pos g] at hr
      simp [w3, w4]
      refine callW_of g2 (.inl rfl) ?_
      simp
      refine brB_of (fun g3 => ?_) (fun g3 => ?_) <;> simp at g3 <;> simp [g3]
      · rw [if_pos g3] at hr
        simp [hr]
      · rw [if_neg (by omega)] at hr
        simp [hr]
  · rw [if_neg (by omega)] at hr
    refine callW_of k3 (.inl rfl) ?_
    simp
    refine brB_of (fun g => ?_) (fun g => ?_) <;> simp at g <;> simp [g]
    · rw [if_neg g] at hr
      simp [hr]
    rw [if_pos g] at hr
    simp [w3, w4]
    refine callW_of g2 (.inl rfl) ?_
    simp
    refine brB_of (fun g3 => ?_) (fun g3 => ?_) <;> simp at g3 <;> simp [g3]
    · rw [if_pos g3] at hr
      simp [hr]
    · rw [if_neg (by omega)] at hr
      simp [hr]
theorem upR_c (l : Lnk) (s : Sec) (flow level : Int) : C 188 [.agg (lnkC l), .agg (secC s), .int .i64 flow, .int .i64 level] (.tup [.int .i64 (upR l s flow level).1, .int .i64 (upR l s flow level).2]) [] := by
  have k1 := given_c hC l s
  obtain ⟨r, hr⟩ : ∃ r, r = upR l s flow level := ⟨_, rfl⟩
  rw [← hr]
  unfold upR at hr
  have ka := fun h1 h2 h3 h4 h5 => aboveR_c hC l s flow level h1 h2 h3 h4 h5
  have hz := @givenE_zero l s
  obtain ⟨e, he⟩ : ∃ e, e = givenE l s := ⟨_, rfl⟩
  rw [← he] at k1 hr hz
  simp only [secC, lnkC] at k1 ka
  refine start hC (nf := N188_ref31_Up) rfl rfl ?_
  simp [N188_ref31_Up, secC, lnkC]
  refine callW_of k1 (.inl rfl) ?_
  simp
  refine brB_of (fun g => ?_) (fun g => ?_) <;> simp at g <;> simp [g]
  · rw [if_neg g] at hr
    simp [hr]
  rw [if_pos g] at hr
  obtain ⟨z1, z2, z3, z4, z5⟩ := hz g
  refine brB_of (fun g1 => ?_) (fun g1 => ?_) <;> simp at g1 <;> simp [g1]
  · rw [if_pos g1] at hr
    simp [hr]
  rw [if_neg (by omega)] at hr
  refine callW_of (isFlow_c hC flow) (.inl rfl) ?_
  cases g2 : lowHigh flow 0 1099511627776
  · rw [if_neg (by simp [g2])] at hr
    simp [hr]
  simp
  refine callW_of (isLevel_c hC level) (.inl rfl) ?_
  cases g3 : lowHigh level (-4194304) 1099511627776
  · rw [if_neg (by simp [g3])] at hr
    simp [hr]
  rw [if_pos (by simp [g2, g3])] at hr
  simp
  simp only [lowHigh, Bool.and_eq_true, decide_eq_true_eq] at g2 g3
  refine callW_of (ka z1 ⟨z2, z3⟩ z4 z5 g2 g3) (.inl rfl) ?_
  simp [hr]
theorem lossR_c (l : Lnk) (s : Sec) (flow : Int) : C 187 [.agg (lnkC l), .agg (secC s), .int .i64 flow] (.tup [.int .i64 (lossR l s flow).1, .int .i64 (lossR l s flow).2]) [] := by
  have k1 := given_c hC l s
  obtain ⟨r, hr⟩ : ∃ r, r = lossR l s flow := ⟨_, rfl⟩
  rw [← hr]
  unfold lossR at hr
  have ka := fun h1 h2 h3 => lost_c hC l s flow h1 h2 h3
  have hz := @givenE_zero l s
  obtain ⟨e, he⟩ : ∃ e, e = givenE l s := ⟨_, rfl⟩
  rw [← he] at k1 hr hz
  simp only [secC, lnkC] at k1 ka
  refine start hC (nf := N187_ref31_Loss) rfl rfl ?_
  simp [N187_ref31_Loss, secC, lnkC]
  refine callW_of k1 (.inl rfl) ?_
  simp
  refine brB_of (fun g => ?_) (fun g => ?_) <;> simp at g <;> simp [g]
  · rw [if_neg g] at hr
    simp [hr]
  rw [if_pos g] at hr
  obtain ⟨z1, z2, z3, z4, z5⟩ := hz g
  refine callW_of (isFlow_c hC flow) (.inl rfl) ?_
  cases g2 : lowHigh flow 0 1099511627776
  · rw [if_neg (by simp [g2])] at hr
    simp [hr]
  rw [if_pos g2] at hr
  simp
  simp only [lowHigh, Bool.and_eq_true, decide_eq_true_eq] at g2
  refine callW_of (ka z1 ⟨z2, z3⟩ g2) (.inl rfl) ?_
  simp [hr]
end Go.Gv

set_option linter.unusedSimpArgs false
namespace Go.Gv
/-! ### searches find the least -/
theorem bis_least {p : Nat → Bool} (hm : ∀ a b, a ≤ b → p a = true → p b = true) : ∀ (f lo hi : Nat), lo ≤ hi → hi - lo < 2 ^ f → (∀ m, lo ≤ m → m < bis p f lo hi → p m = false) ∧ (bis p f lo hi < hi → p (bis p f lo hi) = true)
  | 0, lo, hi, h1, h2 => by
    simp at h2
    have : lo = hi := by omega
    subst this
    exact ⟨fun m h3 h4 => absurd h4 (by simp only [bis]; omega), fun h3 => absurd h3 (by simp only [bis]; omega)⟩
  | f + 1, lo, hi, h1, h2 => by
    rw [Nat.pow_succ] at h2
    by_cases h : lo < hi
    · by_cases hp : p ((lo + hi) / 2) = true
      · have e : bis p (f + 1) lo hi = bis p f lo ((lo + hi) / 2) := by simp only [bis]; rw [if_pos h, if_pos hp]
        have ih := bis_least hm f lo ((lo + hi) / 2) (by omega) (by omega)
        have hr := bis_range p f lo ((lo + hi) / 2) (by omega)
        rw [e]
        refine ⟨ih.1, fun _ => ?_⟩
        by_cases h5 : bis p f lo ((lo + hi) / 2) < (lo + hi) / 2
        · exact ih.2 h5
        · have : bis p f lo ((lo + hi) / 2) = (lo + hi) / 2 := by omega
          rw [this]; exact hp
      · have e : bis p (f + 1) lo hi = bis p f ((lo + hi) / 2 + 1) hi := by simp only [bis]; rw [if_pos h, if_neg hp]
        have ih := bis_least hm f ((lo + hi) / 2 + 1) hi (by omega) (by omega)
        rw [e]
        refine ⟨fun m h3 h4 => ?_, ih.2⟩
        by_cases h5 : (lo + hi) / 2 + 1 ≤ m
        · exact ih.1 m h5 h4
        · cases hpm : p m
          · rfl
          · exact absurd (hm m ((lo + hi) / 2) (by omega) hpm) hp
    · have e : bis p (f + 1) lo hi = lo := bis_end p _ _ _ (by omega)
      rw [e]
      exact ⟨fun m h3 h4 => absurd h4 (by omega), fun h3 => absurd h3 h⟩
theorem bis_eq {p : Nat → Bool} (hm : ∀ a b, a ≤ b → p a = true → p b = true) {f lo hi r : Nat} (h1 : lo ≤ r) (h2 : r ≤ hi) (hf : hi - lo < 2 ^ f) (h3 : ∀ m, lo ≤ m → m < r → p m = false) (h4 : r < hi → p r = true) : bis p f lo hi = r := by
  obtain ⟨a, b⟩ := bis_least hm f lo hi (by omega) hf
  obtain ⟨c, d⟩ := bis_range p f lo hi (by omega)
  rcases Nat.lt_trichotomy (bis p f lo hi) r with h | h | h
  · have e1 := h3 _ c h
    rw [b (by omega)] at e1; cases e1
  · exact h
  · have e1 := a r h1 h
    rw [h4 (by omega)] at e1; cases e1
/-! ### losses -/
theorem ceilN_le {x b n : Nat} (hb : 0 < b) : ceilN x b ≤ n ↔ x ≤ b * n := by
  have h1 := Nat.div_add_mod x b
  have h2 := Nat.mod_lt x hb
  unfold ceilN
  constructor
  · intro h
    split at h
    · have := Nat.mul_le_mul_left b h
      omega
    · have := Nat.mul_le_mul_left b h
      rw [Nat.mul_add, Nat.mul_one] at this
      omega
  · intro h
    split
    · refine Nat.le_of_mul_le_mul_left (c := b) ?_ hb
      omega
    · refine Nat.lt_of_mul_lt_mul_left (a := b) ?_
      omega
theorem lostN_eq (k f n : Nat) : lostN k f n = lossN k f n := by
  unfold lostN lossN
  by_cases hf : f = 0
  · rw [if_pos hf, if_pos hf]
  rw [if_neg hf, if_neg hf]
  by_cases hk : k = 0
  · rw [if_pos hk, if_pos hk]
  rw [if_neg hk, if_neg hk]
  have hkk : 0 < k * k := Nat.mul_pos (by omega) (by omega)
  have key : ∀ i, enoughL k f n i = decide (ceilN (f * f * n) (k * k) ≤ i) := fun i => by
    rw [Bool.eq_iff_iff, enoughL, decide_eq_true_eq, decide_eq_true_eq, ceilN_le hkk]
  obtain ⟨c, hc⟩ : ∃ c, c = ceilN (f * f * n) (k * k) := ⟨_, rfl⟩
  rw [← hc] at key ⊢
  by_cases h : 1073741824 < c
  · rw [if_pos h, if_neg (by rw [key, decide_eq_true_eq]; omega)]
  · rw [if_neg h, if_pos (by rw [key, decide_eq_true_eq]; omega)]
    rw [bis_eq (p := enoughL k f n) (r := c) (fun a b hab ha => ?_) (by omega) (by omega) (by decide) (fun m _ hm => ?_) (fun _ => ?_)]
    · rw [key, decide_eq_true_eq] at ha ⊢; omega
    · rw [key, decide_eq_false_iff_not]; omega
    · rw [key, decide_eq_true_eq]; exact Nat.le_refl _
/-! ### roots and tables ascend -/
theorem rootF_spec : ∀ (i x r : Nat), r * r ≤ x → x < (r + 2 ^ i) * (r + 2 ^ i) → rootF x i r * rootF x i r ≤ x ∧ x < (rootF x i r + 1) * (rootF x i r + 1)
  | 0, x, r, h1, h2 => ⟨h1, h2⟩
  | i + 1, x, r, h1, h2 => by
    rw [rootF_step]
    have e : (2 : Nat) ^ (i + 1) = 2 ^ i + 2 ^ i := by rw [Nat.pow_succ]; omega
    rw [e, ← Nat.add_assoc] at h2
    by_cases h : (r + 2 ^ i) * (r + 2 ^ i) ≤ x
    · rw [if_pos h]; exact rootF_spec i x _ h h2
    · rw [if_neg h]; exact rootF_spec i x _ h1 (by omega)
theorem rootN_spec {x : Nat} (h : x < 85070591730234615865843651857942052864) : rootN x * rootN x ≤ x ∧ x < (rootN x + 1) * (rootN x + 1) := by
  refine rootF_spec 63 x 0 (by omega) ?_
  have e : (0 + 2 ^ 63) * (0 + 2 ^ 63) = 85070591730234615865843651857942052864 := by decide +kernel
  rw [e]; exact h
theorem rootN_mono {x y : Nat} (h : x ≤ y) (hy : y < 85070591730234615865843651857942052864) : rootN x ≤ rootN y := by
  obtain ⟨a, _⟩ := rootN_spec (x := x) (by omega)
  obtain ⟨_, d⟩ := rootN_spec hy
  apply Nat.le_of_not_lt
  intro hlt
  have := Nat.mul_le_mul (show rootN y + 1 ≤ rootN x from hlt) (show rootN y + 1 ≤ rootN x from hlt)
  omega
theorem bet_range {t : List (Int × Int)} {x : Int} (hv : tableValid t = true) (ha : ¬ atK t x = true) (h0 : ¬ posK t x = 0) (h1 : ¬ posK t x = t.length) :
    ∃ k, ∃ (g0 : k < t.length) (g1 : k + 1 < t.length), posK t x = k + 1 ∧ t[k].1 < x ∧ x < t[k + 1].1 ∧ t[k].2 ≤ (pieceF t x).1 ∧ (pieceF t x).1 ≤ t[k + 1].2 := by
  have hpl := posK_le t x
  obtain ⟨k, u, a, d, q1, q2, g0, g1, r1, r2, r3, r4, r5, r6, r7, r8, r9, r10, s1, s2, r11, r12, r13⟩ := between_facts hv h0 (by omega) (by simpa using ha)
  rw [pieceF_bet ha h0 h1, s1, s2, betN r1 r2 r3]
  have b5 : u * a / d ≤ u := by
    have h1 : u * a ≤ u * d := Nat.mul_le_mul_left _ (by omega)
    have h1' : u * d = d * u := Nat.mul_comm _ _
    exact Nat.le_of_lt_succ (Nat.div_lt_of_lt_mul (by rw [Nat.succ_eq_add_one, Nat.mul_add]; omega))
  generalize u * a / d = q at b5
  exact ⟨k, g0, g1, q1, by omega, by omega, by simp only; omega, by simp only; omega⟩
theorem atK_val {t : List (Int × Int)} {x : Int} (ha : atK t x = true) : ∃ (hl : posK t x < t.length), t[posK t x].1 = x ∧ (pieceF t x).1 = t[posK t x].2 := by
  have hl : posK t x < t.length := by simp [atK] at ha; exact ha.1
  have e : t[posK t x]! = t[posK t x] := getElem!_pos t _ hl
  have h1 := pieceF_at (.inl ha)
  simp only [atK, hl, decide_true, Bool.true_and, decide_eq_true_eq, e] at ha
  exact ⟨hl, ha, by rw [h1, e]⟩
theorem piece_up {t : List (Int × Int)} (hv : tableValid t = true) {x : Int} {j : Nat} (hj : j < t.length) (h : x ≤ t[j].1) : (pieceF t x).1 ≤ t[j].2 := by
  have hp := posK_of_le hj h
  by_cases ha : atK t x = true
  · obtain ⟨hl, _, e⟩ := atK_val ha
    rw [e]; exact valid_val hv hj hp
  by_cases h0 : posK t x = 0
  · rw [pieceF_at (.inr h0), h0, getElem!_pos t 0 (by omega)]
    exact valid_val hv hj (by omega)
  obtain ⟨k, g0, g1, q1, _, _, _, q2⟩ := bet_range hv ha h0 (by omega)
  have := valid_val hv hj (show k + 1 ≤ j by omega)
  omega
theorem piece_low {t : List (Int × Int)} (hv : tableValid t = true) {x : Int} {i : Nat} (hi : i < t.length) (h : t[i].1 ≤ x) : t[i].2 ≤ (pieceF t x).1 := by
  have hpl := posK_le t x
  by_cases ha : atK t x = true
  · obtain ⟨hl, e1, e⟩ := atK_val ha
    rw [e]
    by_cases hip : i ≤ posK t x
    · exact valid_val hv hl hip
    · have := valid_asc hv (posK t x) i hi (by omega)
      omega
  by_cases h0 : posK t x = 0
  · rw [pieceF_at (.inr h0), h0, getElem!_pos t 0 (by omega)]
    have h1 := posK_ge (t := t) (x := x) (by omega)
    simp only [h0] at h1
    have hi0 : i = 0 := by
      apply Classical.byContradiction
      intro hne
      have := valid_asc hv 0 i hi (by omega)
      omega
    subst hi0
    exact Int.le_refl _
  by_cases h1 : posK t x = t.length
  · obtain ⟨n, hn⟩ : ∃ n, n + 1 = t.length := ⟨t.length - 1, by omega⟩
    rw [pieceF_end ha h0 h1, show posK t x - 1 = n by omega, getElem!_pos t n (by omega)]
    exact valid_val hv (by omega) (by omega)
  obtain ⟨k, g0, g1, q1, _, q3, q4, _⟩ := bet_range hv ha h0 h1
  have hik : i ≤ k := by
    apply Nat.le_of_not_lt
    intro hne
    have := valid_le hv hi (show k + 1 ≤ i by omega)
    omega
  have := valid_val hv g0 hik
  omega
theorem piece_mono {t : List (Int × Int)} (hv : tableValid t = true) {x y : Int} (h : x ≤ y) : (pieceF t x).1 ≤ (pieceF t y).1 := by
  obtain ⟨l1, l2⟩ := valid_len hv
  have hpx := posK_le t x
  have hpy := posK_le t y
  -- a knot from x to y
  by_cases hk : ∃ j, ∃ (hj : j < t.length), x ≤ t[j].1 ∧ t[j].1 ≤ y
  · obtain ⟨j, hj, h1, h2⟩ := hk
    have := piece_up hv hj h1
    have := piece_low hv hj h2
    omega
  have nk : ∀ j, (hj : j < t.length) → x ≤ t[j].1 → y < t[j].1 := fun j hj h1 => by
    apply Classical.byContradiction
    intro hn
    exact hk ⟨j, hj, h1, by omega⟩
  have hax : ¬ atK t x = true := fun ha => by
    obtain ⟨hl, e1, _⟩ := atK_val ha
    have := nk _ hl (by omega)
    omega
  have hay : ¬ atK t y = true := fun ha => by
    obtain ⟨hl, e1, _⟩ := atK_val ha
    exact hk ⟨_, hl, by omega, by omega⟩
  have hpp : posK t y = posK t x := by
    apply Nat.le_antisymm
    · by_cases hl : posK t x < t.length
      · have h1 := posK_ge hl
        have := nk _ hl h1
        exact posK_of_le hl (by omega)
      · omega
    · apply Nat.le_of_not_lt
      intro hlt
      have h1 := posK_ge (t := t) (x := y) (by omega)
      have h2 := posK_lt (t := t) (x := x) hlt (by omega)
      omega
  by_cases h0 : posK t x = 0
  · rw [pieceF_at (.inr h0), pieceF_at (.inr (by omega)), hpp]; exact Int.le_refl _
  by_cases h1 : posK t x = t.length
  · rw [pieceF_end hax h0 h1, pieceF_end hay (by omega) (by omega), hpp]; exact Int.le_refl _
  obtain ⟨k, u, a, d, q1, q2, g0, g1, r1, r2, r3, r4, r5, r6, r7, r8, r9, r10, s1, s2, r11, r12, r13⟩ := between_facts hv h0 (by omega) (by simpa using hax)
  rw [pieceF_bet hax h0 h1, pieceF_bet hay (by omega) (by omega), hpp, s1, s2, betN r1 r2 r3]
  have r2' : y - t[k].1 = ((a + (y - x).toNat : Nat) : Int) := by omega
  rw [betN r1 r2' r3]
  have := Nat.div_le_div_right (c := d) (Nat.mul_le_mul_left u (show a ≤ a + (y - x).toNat by omega))
  simp only
  omega
theorem carF_mono {s : Sec} (hv : secValid s = true) {fall len x y : Int} (hs : slopeOk fall len = true) (h : x ≤ y) : carF s x fall len ≤ carF s y fall len := by
  obtain ⟨h1, _, _, _⟩ := conv_last hv
  have c1 := conv_any hv x
  have c2 := conv_any hv y
  have hm := piece_mono h1 h
  simp only [slopeOk, Bool.and_eq_true, decide_eq_true_eq] at hs
  unfold carF
  have hk : (pieceF s.conv x).1.toNat ≤ (pieceF s.conv y).1.toNat := by omega
  have hb := cap_lt (k := (pieceF s.conv y).1.toNat) (f := fall.toNat) (by omega) (by omega)
  have hb2 := Nat.div_le_self ((pieceF s.conv y).1.toNat * (pieceF s.conv y).1.toNat * fall.toNat) len.toNat
  refine rootN_mono (Nat.div_le_div_right (Nat.mul_le_mul_right _ (Nat.mul_le_mul hk hk))) (by omega)
theorem depthR_eq (s : Sec) (flow fall len : Int) : depthR s flow fall len = depthF s flow fall len := by
  unfold depthR depthF
  by_cases hv : secValid s = true
  · rw [if_pos hv, if_pos hv]
    by_cases hc : 0 ≤ flow ∧ flow ≤ 1099511627776 ∧ slopeOk fall len = true
    · rw [if_pos hc, if_pos hc]
      have hh : 1 ≤ s.height ∧ s.height ≤ 32768 := by
        simp only [secValid, Bool.and_eq_true, decide_eq_true_eq] at hv
        omega
      have h40 : (2 : Nat) ^ 40 = 1099511627776 := by decide +kernel
      obtain ⟨H, hH⟩ : ∃ H : Nat, s.height = H := ⟨s.height.toNat, by omega⟩
      have hm : ∀ a b, a ≤ b → enoughD s flow fall len a = true → enoughD s flow fall len b = true := fun a b hab ha => by
        simp only [enoughD, decide_eq_true_eq] at ha ⊢
        have := carF_mono hv hc.2.2 (show (a : Int) ≤ (b : Int) by omega)
        omega
      rw [hH, Int.toNat_natCast]
      unfold leastD
      rw [hH, Int.toNat_natCast]
      have hp : ((carF s H fall len : Int) < flow) ↔ ¬ enoughD s flow fall len H = true := by
        simp only [enoughD, decide_eq_true_eq]; omega
      obtain ⟨a, b⟩ := bis_least hm 40 0 (H + 1) (by omega) (by rw [h40]; omega)
      have hr := bis_range (enoughD s flow fall len) 40 0 (H + 1) (by omega)
      obtain ⟨L, hL⟩ : ∃ L, L = bis (enoughD s flow fall len) 40 0 (H + 1) := ⟨_, rfl⟩
      rw [← hL] at a b hr ⊢
      by_cases he : enoughD s flow fall len H = true
      · have hLH : L ≤ H := by
          apply Nat.le_of_not_lt
          intro hlt
          have := a H (by omega) hlt
          rw [he] at this; cases this
        rw [if_neg (by rw [hp]; simp [he]), if_neg (by omega)]
        rw [bis_eq hm (r := L) (by omega) hLH (by rw [h40]; omega) a (fun _ => b (by omega))]
      · have hLH : H < L := by
          apply Nat.lt_of_not_le
          intro hle
          exact he (hm L H hle (b (by omega)))
        rw [if_pos (hp.2 he), if_pos hLH]
    · rw [if_neg hc, if_neg hc]
  · rw [if_neg hv, if_neg hv]
/-! ### links -/
theorem pump_eq (l : List (Int × Int)) : (tableValid l && !(l.any fun k => !pumpOk k)) = curveR l := by
  by_cases hv : tableValid l = true
  · obtain ⟨l1, l2⟩ := valid_len hv
    obtain ⟨n, hn⟩ : ∃ n, n + 1 = l.length := ⟨l.length - 1, by omega⟩
    have h0 : 0 < l.length := by omega
    have hnl : n < l.length := by omega
    have hany : (!(l.any fun k => !pumpOk k)) = l.all pumpOk := by rw [Bool.eq_iff_iff]; simp
    rw [hany, curveR, hv, lastK_get hn, getElem!_pos l 0 h0, Bool.eq_iff_iff]
    simp only [Bool.true_and, List.all_eq_true, Bool.and_eq_true, decide_eq_true_eq]
    constructor
    · intro h
      have ha := h l[0] (List.getElem_mem h0)
      have hb := h l[n] (List.getElem_mem hnl)
      simp only [pumpOk, lowHigh, Bool.and_eq_true, decide_eq_true_eq] at ha hb
      omega
    · intro h k hk
      obtain ⟨i, hi, rfl⟩ := List.getElem_of_mem hk
      have a1 := valid_le hv hi (show 0 ≤ i by omega)
      have a2 := valid_le hv hnl (show i ≤ n by omega)
      have a3 := valid_val hv hi (show 0 ≤ i by omega)
      have a4 := valid_val hv hnl (show i ≤ n by omega)
      simp only [pumpOk, lowHigh, Bool.and_eq_true, decide_eq_true_eq]
      omega
  · simp [curveR, hv]
theorem linkR_eq (l : Lnk) : linkR l = linkOk l := by
  have hcur : ∀ x : List (Int × Int), decide (x.length = 0) = decide (x = []) := fun x => by
    rw [Bool.eq_iff_iff]; simp
  have hp := pump_eq l.curve
  unfold linkR linkOk kindR kindOk sameL plainF
  simp only [hcur]
  have l0 : lvlOk 0 = true := by decide
  by_cases h1 : l.kind = 1
  · simp [h1]
    ac_rfl
  by_cases h2 : l.kind = 2
  · by_cases hd : l.down = 0
    · simp [h2, hd, l0]
      ac_rfl
    · simp [h2, hd]
  by_cases h3 : l.kind = 3
  · by_cases hd : l.down = 0
    · simp [h3, hd, l0]
      ac_rfl
    · simp [h3, hd]
  by_cases h4 : l.kind = 4
  · simp [h4]
    rw [← hp]
    ac_rfl
  · simp [h1, h2, h3, h4]
theorem givenE_eq (l : Lnk) (s : Sec) : givenE l s = pipeE l s := by unfold givenE pipeE; rw [linkR_eq]
theorem grI_eq (a b : Int) : grI a b = mxI a b := by unfold grI mxI; split <;> split <;> omega
theorem lostF_eq (l : Lnk) (s : Sec) (f : Int) : lostF l s f = lossF l s f := lostN_eq _ _ _
theorem highR_eq (l : Lnk) (s : Sec) (f v : Int) : highR l s f v = highF l s f v := by
  unfold highR highF
  rw [lostF_eq, grI_eq]
theorem cap_eq {s : Sec} (hv : secValid s = true) (fall len : Int) : carF s s.height fall len = capN s fall len := by
  obtain ⟨h1, h2, _, _⟩ := conv_last hv
  obtain ⟨l1, l2⟩ := valid_len h1
  obtain ⟨n, hn⟩ : ∃ n, n + 1 = s.conv.length := ⟨s.conv.length - 1, by omega⟩
  have hnl : n < s.conv.length := by omega
  have e : (pieceF s.conv s.height).1 = (lastK s.conv).2 := by
    rw [lastK_get hn] at h2 ⊢
    have a := piece_up h1 hnl (x := s.height) (by omega)
    have b := piece_low h1 hnl (x := s.height) (by omega)
    omega
  unfold carF capN
  rw [e]
theorem aboveR_eq {l : Lnk} {s : Sec} {f v : Int} (hv : secValid s = true) (hl : 1 ≤ l.len ∧ l.len ≤ 16777216) (hd : l.down ≤ l.up) (hf : 0 ≤ f ∧ f ≤ 1099511627776) : aboveR l s f v = aboveF l s f v := by
  have hs : slopeOk (fallF l) l.len = true := by
    simp only [slopeOk, Bool.and_eq_true, decide_eq_true_eq]
    unfold fallF
    split <;> omega
  have hcap := cap_eq hv (fallF l) l.len
  have hD : (depthR s f (fallF l) l.len).2 = 0 ↔ f ≤ (capN s (fallF l) l.len : Int) := by
    unfold depthR
    rw [if_pos hv, if_pos ⟨hf.1, hf.2, hs⟩, hcap]
    constructor
    · intro h
      split at h
      · simp at h
      · omega
    · intro h
      rw [if_neg (by omega)]
  have hL : lowB l s f v = true ↔ (v < l.down + s.height ∧ f ≤ (capN s (fallF l) l.len : Int)) := by
    simp only [lowB, Bool.and_eq_true, Bool.or_eq_true, decide_eq_true_eq]
    unfold fullF
    rw [if_pos hv, if_pos hs]
    by_cases hc : 1099511627776 < capN s (fallF l) l.len
    · rw [if_pos hc]
      simp only
      constructor
      · intro h; exact ⟨h.1, by omega⟩
      · intro h; exact ⟨h.1, .inl trivial⟩
    · rw [if_neg hc]
      simp only
      constructor
      · intro h; exact ⟨h.1, by rcases h.2 with h | h <;> omega⟩
      · intro h; exact ⟨h.1, .inr ⟨trivial, h.2⟩⟩
  unfold aboveR
  by_cases hb : lowB l s f v = true
  · have h1 := hL.1 hb
    rw [above_low hb, if_pos ⟨hD.2 h1.2, h1.1⟩]
    have h2 := hD.2 h1.2
    unfold lowF
    rw [depthR_eq] at h2 ⊢
    rw [if_pos h2, grI_eq]
  · rw [above_high hb, if_neg (fun h => hb (hL.2 ⟨h.2, hD.1 h.1⟩)), highR_eq]
theorem upR_eq (l : Lnk) (s : Sec) (f v : Int) : upR l s f v = upF l s f v := by
  unfold upR upF
  rw [givenE_eq]
  by_cases h1 : pipeE l s = 0
  · rw [if_pos h1, if_pos h1]
    by_cases h2 : l.up < l.down
    · rw [if_pos h2, if_pos h2]
    · rw [if_neg h2, if_neg h2]
      by_cases h3 : (lowHigh f 0 1099511627776 && lowHigh v (-4194304) 1099511627776) = true
      · rw [if_pos h3, if_pos h3]
        obtain ⟨z1, z2, z3, _, _⟩ := pipeE_zero h1
        simp only [lowHigh, Bool.and_eq_true, decide_eq_true_eq] at h3
        exact aboveR_eq z1 ⟨z2, z3⟩ (by omega) h3.1
      · rw [if_neg h3, if_neg h3]
  · rw [if_neg h1, if_neg h1]
theorem lossR_eq (l : Lnk) (s : Sec) (f : Int) : lossR l s f = lossU l s f := by
  unfold lossR lossU
  rw [givenE_eq, lostF_eq]
end Go.Gv

set_option linter.unusedSimpArgs false
namespace Go.Gv
variable {C : CC} (hC : Closed prog C)
include hC
theorem Pipes_c (l : Lnk) (s : Sec) (flow level : Int) : C 186 [.agg (lnkC l), .agg (secC s), .int .i64 flow, .int .i64 level] (.bool true) [] := by
  have kl := long31_c hC l
  have km := many31_c hC s
  have k1 := fun hc => LossU_c hC l s flow hc
  have k2 := fun hc => Up_c hC l s flow level hc
  have k3 := lossR_c hC l s flow
  have k4 := upR_c hC l s flow level
  rw [lossR_eq] at k3
  rw [upR_eq] at k4
  obtain ⟨a, ha⟩ : ∃ z, z = (upF l s flow level).1 := ⟨_, rfl⟩
  obtain ⟨e, he⟩ : ∃ z, z = (upF l s flow level).2 := ⟨_, rfl⟩
  obtain ⟨x, hx⟩ : ∃ z, z = (lossU l s flow).1 := ⟨_, rfl⟩
  obtain ⟨h, hh⟩ : ∃ z, z = (lossU l s flow).2 := ⟨_, rfl⟩
  rw [← ha, ← he] at k4
  simp only [← ha, ← he] at k2
  rw [← hx, ← hh] at k3
  simp only [← hx, ← hh] at k1
  simp only [lnkC, secC] at kl km k1 k2 k3 k4
  refine start hC (nf := N186_law31_BackwaterPipes) rfl rfl ?_
  simp [N186_law31_BackwaterPipes, lnkC, secC]
  refine callW_of (awake31_c hC) (.inl rfl) ?_
  simp
  refine callW_of kl (.inl rfl) ?_
  cases hl : longL l
  rotate_left
  · simp
  simp
  refine callW_of km (.inl rfl) ?_
  cases hm : manyS s
  rotate_left
  · simp
  simp
  have hc : l.curve.length < 2 ^ 62 := by
    simp only [longL, Bool.or_eq_false_iff, decide_eq_false_iff_not] at hl
    omega
  refine callW_of (k1 hc) (.inl rfl) ?_
  simp
  refine callW_of (k2 hc) (.inl rfl) ?_
  simp
  refine callW_of k3 (.inl rfl) ?_
  simp
  refine callW_of k4 (.inl rfl) ?_
  simp
end Go.Gv
