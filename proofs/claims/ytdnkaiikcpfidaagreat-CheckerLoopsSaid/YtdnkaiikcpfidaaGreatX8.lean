/-
  Texts of the proof: Q23, Q25, Q31, Q32, Q33, Q11, Q13, Q18, Q20, Q24, Q26, Q34, A2, A3, A5, A6, A7, A8, A9, A10, A14, A16, A17, A11, A18, A12, A20, A21, A22.
-/
import Derived.Test.YtdnkaiikcpfidaaGreatX7
set_option linter.all false
set_option linter.unusedSimpArgs false
namespace Go.Gv
def ovG (ss : List Sec) (f : Sp → Int) (p : Lnk × Sp) : Option (List UInt8) := if fulF ss p.1 < f p.2 then some p.1.name else none
def ovT (ss : List Sec) (f : Sp → Int) (ls : List Lnk) (fl : List Sp) (i : Nat) : List (List UInt8) := ((ls.zip fl).take i).filterMap (ovG ss f)
def strR (l : List (List UInt8)) : List (List D) := l.map fun s => [.str s]
theorem strR_len (l : List (List UInt8)) : (strR l).length = l.length := by simp [strR]
theorem strR_V (l : List (List UInt8)) : (strR l).map (fun e => e.map cellV) = strR l := by
  unfold strR
  rw [List.map_map]
  apply List.map_congr_left
  intro v _
  simp [cellV]
def OvE (ns : List Nod) (ls : List Lnk) (ss : List Sec) (q : List Sp) : Int := if givE ns ls ss q ns.length = 0 then flowsE ns.length (edgN ns ls) q else givE ns ls ss q ns.length
def OvV (f : Sp → Int) (ns : List Nod) (ls : List Lnk) (ss : List Sec) (q : List Sp) : D := if OvE ns ls ss q = 0 then .sl (strR (ovT ss f ls (flowsF ns.length (edgN ns ls) q) ls.length)) else .nils
variable {C : CC} (hC : Closed prog C)
include hC
end Go.Gv

set_option linter.unusedSimpArgs false
namespace Go.Gv
variable {C : CC} (hC : Closed prog C)
include hC
theorem idxEqStr_c (b : Bool) (xs : List (List UInt8)) (s : List UInt8) (hs : xs.length < 2 ^ 62) : C 485 [slx b (strR xs), .str s] (.int .i64 (idxD (fun x => x == s) xs)) [] := by
  refine start hC (nf := N485_slices_Index__string_string) rfl rfl ?_
  simp [N485_slices_Index__string_string, strR]
  refine loop_of Nat (fun i => [(0, slx b (strR xs)), (1, .str s), (7, .int .i64 xs.length), (8, .int .i64 i)]) (fun i => i ≤ xs.length ∧ ∀ (j : Nat) (h : j < xs.length), j < i → (xs[j] == s) = false) (fun i => xs.length - i) 0 (by simp) (by simp [strR]) ?_
  rintro i ⟨hi, hj⟩
  simp [strR]
  refine brB_of (fun h => ?_) (fun h => ?_) <;> simp [h] <;> simp at h
  · have hw : IntKind.wrap .i64 ((i : Int) + 1) = ((i + 1 : Nat) : Int) := wrap_i64 (by omega) (by omega)
    simp [h]
    by_cases h1 : s = xs[i]
    · simp [← h1]
      rw [idxD_step hj h (by simp [h1])]
    · simp [h1, hw]
      refine ⟨i + 1, ⟨by omega, fun j hl hjj => ?_⟩, by omega, by omega⟩
      rcases Nat.lt_succ_iff_lt_or_eq.1 hjj with h2 | rfl
      · simpa using hj j hl h2
      · exact fun e => h1 e.symm
  · rw [idxD_none (fun j hl => by simpa using hj j hl (by omega))]
theorem hasStr_c (b : Bool) (xs : List (List UInt8)) (s : List UInt8) (hs : xs.length < 2 ^ 62) : C 450 [slx b (strR xs), .str s] (.bool (xs.contains s)) [] := by
  have hss : slx b (strR xs) = .nils ∨ slx b (strR xs) = .sl (strR xs) := by
    unfold slx; split
    · exact .inl rfl
    · exact .inr rfl
  have k := idxEqStr_c hC b xs s hs
  have e : xs.contains s = xs.any (fun x => x == s) := by
    rw [Bool.eq_iff_iff]; simp
  rw [e]
  refine start hC (nf := N450_slices_Contains__string_string) rfl rfl ?_
  simp only [N450_slices_Contains__string_string]
  simp
  refine callW_of k (.inl rfl) ?_
  simp [idxD_any]
theorem eqStr_c (b b' : Bool) (xs ys : List (List UInt8)) (hx : xs.length < 2 ^ 62) (hy : ys.length < 2 ^ 62) : C 435 [slx b (strR xs), slx b' (strR ys)] (.bool (decide (xs = ys))) [] := by
  obtain ⟨r, hr⟩ : ∃ r, r = decide (xs = ys) := ⟨_, rfl⟩
  rw [← hr]
  refine start hC (nf := N435_slices_Equal__string_string) rfl rfl ?_
  simp [N435_slices_Equal__string_string, strR]
  refine brB_of (fun h => ?_) (fun h => ?_) <;> simp at h <;> simp [h]
  · rw [hr, decide_eq_false]
    intro e
    exact h (by rw [e])
  have h' : xs.length = ys.length := by omega
  refine loop_of Nat (fun i => [(0, slx b (strR xs)), (1, slx b' (strR ys)), (12, .int .i64 xs.length), (13, .int .i64 i)])
    (fun i => i ≤ xs.length ∧ ∀ (k : Nat) (h1 : k < xs.length) (h2 : k < ys.length), k < i → xs[k] = ys[k]) (fun i => xs.length - i) 0 (by simp) (by simp [h', strR]) ?_
  rintro i ⟨hi, hok⟩
  simp [strR]
  refine brB_of (fun h1 => ?_) (fun h1 => ?_) <;> simp at h1 <;> simp [h1]
  · have hw : IntKind.wrap .i64 ((i : Int) + 1) = ((i + 1 : Nat) : Int) := wrap_i64 (by omega) (by omega)
    have hy1 : i < ys.length := by omega
    simp [h1, hy1]
    refine ⟨indW_of (by decide +kernel), ?_⟩
    by_cases h2 : xs[i] = ys[i]
    · simp [h2, hw]
      refine ⟨i + 1, ⟨by omega, fun k hk hk' hki => ?_⟩, by omega, by omega⟩
      rcases Nat.lt_succ_iff_lt_or_eq.1 hki with h3 | rfl
      · exact hok k hk hk' h3
      · exact h2
    · simp [h2]
      rw [hr, decide_eq_false]
      intro e
      subst e
      exact h2 rfl
  · rw [hr]
    have : xs = ys := by
      apply List.ext_getElem h'
      intro k a1 a2
      exact hok k a1 a2 (by omega)
    simp [this]
end Go.Gv

set_option linter.unusedSimpArgs false
namespace Go.Gv
def trn (es : List Edg) : List Edg := es.map fun e => (e.2, e.1)
def nodNm (ns : List Nod) (k : Nat) : List UInt8 := (ns[k]?.map (·.name)).getD []
/-- The names of the nodes that f takes. -/
def nmT (ns : List Nod) (f : Nat → Bool) : Nat → List (List UInt8)
  | 0 => []
  | k + 1 => nmT ns f k ++ (if f k = true then [nodNm ns k] else [])
theorem nmT_len (ns : List Nod) (f : Nat → Bool) : ∀ k, (nmT ns f k).length ≤ k
  | 0 => by simp [nmT]
  | k + 1 => by
    have := nmT_len ns f k
    unfold nmT
    split <;> simp <;> omega
theorem nodNm_get {ns : List Nod} {k : Nat} (h : k < ns.length) : nodNm ns k = ns[k].name := by simp [nodNm, h]
/-- The edges, of which the first j are turned. -/
def trA (es : List Edg) (j : Nat) : List (List D) := (List.range es.length).map fun k => edK (if k < j then (es[k]!.2, es[k]!.1) else es[k]!)
def waysE (ns : List Nod) (nm : List UInt8) : Int := if 0 ≤ idxD (nodIs nm) ns then 0 else 9
noncomputable def waysL (ns : List Nod) (te : List Edg) (nm : List UInt8) : List (List UInt8) := nmT ns (rB te (tgs te (idxD (nodIs nm) ns).toNat)) ns.length
noncomputable def waysV (ns : List Nod) (te : List Edg) (nm : List UInt8) : D := if 0 ≤ idxD (nodIs nm) ns then .sl (strR (waysL ns te nm)) else .nils
variable {C : CC} (hC : Closed prog C)
include hC
theorem found_c (d : List D) (i : Int) : C 498 [.agg d, .int .i64 i] (.tup [.int .i64 (if i < 0 then 0 else i), .int .i64 (if i < 0 then 9 else 0)]) [] := by
  refine start hC (nf := N498_network_found) rfl rfl ?_
  simp [N498_network_found]
  refine brB_of (fun h => ?_) (fun h => ?_) <;> simp at h <;> simp [h]
  omega
set_option maxHeartbeats 2000000 in
theorem ways_c (hS : SlC C) (b1 b2 b : Bool) (ns : List Nod) (ls : List Lnk) (te : List Edg) (nm : List UInt8) (hn : ns.length ≤ 300) (he : te.length ≤ 1000) (hg : inG ns.length te) : C 500 [.agg [slx b1 (ns.map nodC), slx b2 (ls.map lnkC)], .str nm, slx b (te.map edK)] (.tup [waysV ns te nm, .int .i64 (waysE ns nm)]) [] := by
  have k1 := node_c hC b1 b2 ns ls nm (by omega)
  have k2 := found_c hC [slx b1 (ns.map nodC), slx b2 (ls.map lnkC)] (idxD (nodIs nm) ns)
  refine start hC (nf := N500_network_ways) rfl rfl ?_
  simp [N500_network_ways]
  refine callW_of k1 (.inl rfl) ?_
  simp
  refine callW_of k2 (.inl rfl) ?_
  simp
  refine ⟨indW_of (by decide +kernel), ?_⟩
  unfold waysV waysE
  by_cases h0 : idxD (nodIs nm) ns < 0
  · simp [h0, show ¬ 0 ≤ idxD (nodIs nm) ns by omega]
  have hx := idxD_lt (show 0 ≤ idxD (nodIs nm) ns by omega)
  unfold waysL
  obtain ⟨x, hxe⟩ : ∃ x : Nat, idxD (nodIs nm) ns = x := ⟨(idxD (nodIs nm) ns).toNat, by omega⟩
  rw [hxe] at hx ⊢
  simp at hx
  have h0' : ¬ (x : Int) < 0 := by omega
  have hgl := tgs_len te x
  have hgf : ∀ s ∈ tgs te x, s < ns.length := fun s hs => (hg _ (mem_tgs.1 hs)).2
  have k3 := gReach_c hC hS (b := b) (b' := false) hn he hg (tgs te x) hgf (by omega)
  rw [slx_false] at k3
  simp [h0']
  refine loop_of Nat (fun j => [(2, slx b (te.map edK)), (3, .ptr [slx b1 (ns.map nodC), slx b2 (ls.map lnkC)]), (8, .int .i64 x), (10, .ref (.r 10160) 0 (tgs (te.take j) x).length), (10160, .blk 1 (intL (tgs (te.take j) x))), (28, slx b (te.map edK)), (29, .int .i64 te.length), (30, .int .i64 j)]) (fun j => j ≤ te.length) (fun j => te.length - j) 0 (by simp) (by simp [tgs, intL]) ?_
  rintro j hj
  simp
  refine brB_of (fun h => ?_) (fun h => ?_) <;> simp [h] <;> simp at h
  · have hw : IntKind.wrap .i64 ((j : Int) + 1) = ((j + 1 : Nat) : Int) := wrap_i64 (by omega) (by omega)
    have ht := tgs_take h x
    have hl1 := tgs_len (te.take j) x
    have hl2 : (te.take j).length = j := by simp; omega
    generalize tgs (te.take j) x = T at *
    have hT : (intL T).take T.length = intL T := List.take_of_length_le (by rw [intL_len]; exact Nat.le_refl _)
    simp [h, edK, knD]
    by_cases c : te[j].1 = x
    · rw [if_pos c] at ht
      simp [c, h]
      refine ⟨by rw [intL_len]; exact Nat.le_refl _, by omega, ?_⟩
      simp [hw]
      refine ⟨j + 1, by omega, by omega, ?_⟩
      rw [ht, hT]
      simp [intL]
    · rw [if_neg c, List.append_nil] at ht
      have c' : ¬ (te[j].1 : Int) = x := by omega
      simp [c, c', hw]
      exact ⟨j + 1, by omega, by omega, by rw [ht]; simp⟩
  · have ej : j = te.length := by omega
    subst ej
    rw [List.take_of_length_le (Nat.le_refl te.length)]
    have hV : List.take (tgs te x).length (List.map (fun e => List.map cellV e) (intL (tgs te x))) = intL (tgs te x) := by
      have e1 : List.map (fun e => List.map cellV e) (intL (tgs te x)) = intL (tgs te x) := by
        unfold intL
        rw [List.map_map]
        apply List.map_congr_left
        intro v _
        simp [cellV]
      rw [e1, List.take_of_length_le (by rw [intL_len]; exact Nat.le_refl _)]
    simp [intL_len, hV]
    clear hj h
    refine callW_of k3 (.inr rfl) ?_
    generalize rB te (tgs te x) = f at *
    simp
    refine loop_of Nat (fun j => [(13, .sl (boolA ns.length f)), (14, .ref (.r 10224) 0 (nmT ns f j).length), (10224, .blk 1 (strR (nmT ns f j))), (57, slx b1 (ns.map nodC)), (58, .int .i64 ns.length), (59, .int .i64 j)]) (fun j => j ≤ ns.length) (fun j => ns.length - j) 0 (by simp) (by simp [nmT, strR]) ?_
    rintro j hj
    simp
    refine brB_of (fun h => ?_) (fun h => ?_) <;> simp [h] <;> simp at h
    · have hw : IntKind.wrap .i64 ((j : Int) + 1) = ((j + 1 : Nat) : Int) := wrap_i64 (by omega) (by omega)
      have ht : nmT ns f (j + 1) = nmT ns f j ++ (if f j = true then [nodNm ns j] else []) := rfl
      rw [nodNm_get h] at ht
      have hl1 := nmT_len ns f j
      generalize nmT ns f j = T at *
      have hT : (strR T).take T.length = strR T := List.take_of_length_le (by rw [strR_len]; exact Nat.le_refl _)
      simp [h, nodC, idxW_some (boolA_get f h), boolA_get f h, boolA_len]
      by_cases c : f j = true
      · rw [if_pos c] at ht
        simp [c, h]
        refine ⟨by rw [strR_len]; exact Nat.le_refl _, by omega, ?_⟩
        simp [hw]
        refine ⟨j + 1, by omega, by omega, ?_⟩
        rw [ht, hT]
        simp [strR]
      · rw [if_neg c, List.append_nil] at ht
        have c' : f j = false := by simpa using c
        simp [c', hw]
        exact ⟨j + 1, by omega, by omega, by rw [ht]; simp⟩
    · have ej : j = ns.length := by omega
      subst ej
      rw [strR_V, List.take_of_length_le (by rw [strR_len]; exact Nat.le_refl _)]
      exact ⟨by rw [strR_len]; exact Nat.le_refl _, rfl⟩
def AboveE (ns : List Nod) (ls : List Lnk) (nm : List UInt8) : Int := if netOk ns ls = true then waysE ns nm else 1
noncomputable def AboveV (ns : List Nod) (ls : List Lnk) (nm : List UInt8) : D := if netOk ns ls = true then waysV ns (trn (edgN ns ls)) nm else .nils
end Go.Gv

set_option linter.unusedSimpArgs false
namespace Go.Gv
def noutW (n : Nat) (out : Nat → Bool) : Nat := wtS (fun v => if out v = true then 0 else 1) n
variable {C : CC} (hC : Closed prog C)
include hC
end Go.Gv

set_option linter.unusedSimpArgs false
namespace Go.Gv
/-- What is upstream of node x, in the turned graph. -/
noncomputable def upsR (es : List Edg) (x : Nat) : Nat → Bool := rB (trn es) (tgs (trn es) x)
variable {C : CC} (hC : Closed prog C)
include hC
/-- What is upstream of a link's source, itself too. -/
noncomputable def upX (ns : List Nod) (ls : List Lnk) (x v : Nat) : Bool := if v = x then true else upsR (edgN ns ls) x v
end Go.Gv

set_option linter.unusedSimpArgs false
namespace Go.Gv
def bigNod (n : Nod) : Bool := decide (110 < n.shape.length) || decide (100 < n.name.length)
def bigLnk (l : Lnk) : Bool := decide (110 < l.curve.length) || decide (100 < l.name.length) || decide (100 < l.src.length) || decide (100 < l.dst.length) || decide (100 < l.sect.length)
def bigSec (s : Sec) : Bool := decide (110 < s.area.length) || decide (110 < s.conv.length) || decide (100 < s.name.length)
def large30 (ns : List Nod) (ls : List Lnk) (ss : List Sec) (k : Nat) : Bool := decide (12 < ns.length) || decide (20 < ls.length) || decide (12 < ss.length) || decide (25 < k) || ns.any bigNod || ls.any bigLnk || ss.any bigSec
def exNod (nm : UInt8) : Nod := ⟨[nm], 1, 0, 0, 0, 9, false, [(0, 0), (9, 5)], false, 0⟩
def exLnk (nm a b : UInt8) : Lnk := ⟨[nm], [a], [b], 1, 5, 3, 0, [115], 0, 0, true, []⟩
def exN : List Nod := [exNod 97, exNod 98, ⟨[111], 3, 0, 0, 0, 0, true, [], false, 0⟩]
def exL : List Lnk := [exLnk 112 97 98, exLnk 113 98 111]
variable {C : CC} (hC : Closed prog C)
include hC
end Go.Gv

set_option linter.unusedSimpArgs false
namespace Go.Gv
variable {C : CC} (hC : Closed prog C)
include hC
end Go.Gv

set_option linter.unusedSimpArgs false
namespace Go.Gv
structure DepthOk (s : Sec) (fall len : Int) (y : Sp) : Prop where
  lo : 0 ≤ y.1
  hi : y.1 ≤ s.height
  fl : y.2 ≤ 1099511627776
  yes : y.2 ≤ (carF s y.1 fall len : Int)
  no : 0 < y.1 → (carF s (y.1 - 1) fall len : Int) < y.2
theorem DepthOk.cap {s : Sec} {fall len : Int} {y : Sp} (h : DepthOk s fall len y) (hs : secValid s = true) (hf : slopeOk fall len = true) : (capF s y.1 fall len).2 = 5 ∨ ((capF s y.1 fall len).2 = 0 ∧ y.2 ≤ (capF s y.1 fall len).1) := by
  have := h.yes
  unfold capF
  rw [if_pos hs, if_pos ⟨h.lo, h.hi, hf⟩]
  split
  · exact .inl rfl
  · exact .inr ⟨rfl, this⟩
variable {C : CC} (hC : Closed prog C)
include hC
end Go.Gv

set_option linter.unusedSimpArgs false
namespace Go.Gv
variable {C : CC} (hC : Closed prog C)
include hC
end Go.Gv

set_option linter.unusedSimpArgs false
namespace Go.Gv
def ptN (at' : List Int) (i : Nat) (s : Sp) : Int := if at'.length = 0 then s.1 else s.1 + at'[i % at'.length]! % (s.2 - s.1 + 1)
def ptS (at' : List Int) (i : Nat) (s : Sp) : Sp := (ptN at' i s, ptN at' i s)
def ptL (at' : List Int) (q : List Sp) : List Sp := (List.range q.length).map fun i => ptS at' i q[i]!
def insS (a b : Sp) : Bool := decide (b.1 ≤ a.1) && decide (a.2 ≤ b.2)
variable {C : CC} (hC : Closed prog C)
include hC
end Go.Gv

set_option linter.unusedSimpArgs false
namespace Go.Gv
/-- Spans of single numbers within spans. -/
structure FlIn (a b : List Sp) : Prop where
  len : b.length = a.length
  get : ∀ (i : Nat) (h : i < a.length) (h' : i < b.length), 0 ≤ a[i].1 ∧ a[i].1 ≤ b[i].1 ∧ b[i].1 = b[i].2 ∧ b[i].2 ≤ a[i].2
end Go.Gv

set_option linter.unusedSimpArgs false
namespace Go.Gv
theorem Pth.wat {es : List Edg} (hnd : (es.map (·.1)).Nodup) {v x : Nat} (h : Pth es v x) : ∃ m, wat es m v = some x := by
  have cons : ∀ {u v : Nat}, (u, v) ∈ es → ∀ m, Go.Gv.wat es (m + 1) u = Go.Gv.wat es m v := fun {u v} e m => by
    induction m with
    | zero => show (some u).bind (stp es) = some v; exact stp_of hnd e
    | succ m ih =>
      show (Go.Gv.wat es (m + 1) u).bind (stp es) = (Go.Gv.wat es m v).bind (stp es)
      rw [ih]
  induction h with
  | refl v => exact ⟨0, rfl⟩
  | step e _ ih =>
    obtain ⟨m, hm⟩ := ih
    exact ⟨m + 1, by rw [cons e]; exact hm⟩
def sumSp (q : List Sp) (f : Nat → Bool) (k : Nat) : Sp := (sumF (fun v => if f v = true then q[v]!.1 else 0) k, sumF (fun v => if f v = true then q[v]!.2 else 0) k)
variable {C : CC} (hC : Closed prog C)
include hC
end Go.Gv

set_option linter.unusedSimpArgs false
namespace Go.Gv
/-- There is a way of at least one edge. -/
noncomputable def wyB (es : List Edg) (i k : Nat) : Bool := rB es (tgs es i) k
theorem mem_tgs2 {es : List Edg} {i k : Nat} : k ∈ tgs es i ↔ (i, k) ∈ es := mem_tgs
theorem wyB_iff {es : List Edg} {i k : Nat} : wyB es i k = true ↔ ∃ s, (i, s) ∈ es ∧ Pth es s k := by
  unfold wyB
  rw [rB_iff]
  constructor
  · rintro ⟨s, h1, h2⟩
    exact ⟨s, mem_tgs2.1 h1, h2⟩
  · rintro ⟨s, h1, h2⟩
    exact ⟨s, mem_tgs2.2 h1, h2⟩
theorem wyB_pth {es : List Edg} {i k : Nat} (h : wyB es i k = true) : Pth es i k := by
  obtain ⟨s, h1, h2⟩ := wyB_iff.1 h
  exact .step h1 h2
theorem wyB_of {es : List Edg} {i k : Nat} (h : Pth es i k) (hne : i ≠ k) : wyB es i k = true := by
  cases h with
  | refl => exact absurd rfl hne
  | step e h => exact wyB_iff.2 ⟨_, e, h⟩
theorem wyB_trans {es : List Edg} {i k m : Nat} (h1 : wyB es i k = true) (h2 : wyB es k m = true) : wyB es i m = true := by
  obtain ⟨s, e, h⟩ := wyB_iff.1 h1
  exact wyB_iff.2 ⟨s, e, h.trans (wyB_pth h2)⟩
/-- The edges of a network lead from one node to another one. -/
theorem wyB_self {es : List Edg} (hirr : ∀ e ∈ es, e.1 ≠ e.2) {n : Nat} (hg : inG n es) {i : Nat} (h : wyB es i i = true) : ∃ k, k < n ∧ k ≠ i ∧ wyB es i k = true ∧ wyB es k i = true := by
  obtain ⟨s, h1, h2⟩ := wyB_iff.1 h
  have hne : s ≠ i := fun e => hirr _ h1 e.symm
  exact ⟨s, (hg _ h1).2, hne, wyB_iff.2 ⟨s, h1, .refl s⟩, wyB_of h2 hne⟩

/-! ### Loops -/
section
variable (n : Nat) (R : Nat → Nat → Bool)
def mutB (i k : Nat) : Bool := R i k && R k i
def lpSeen (i k : Nat) : Bool := (List.range i).any fun j => decide (j < k) && mutB R j k
def lpL (i : Nat) : List Nat := (List.range n).filter fun k => decide (k = i) || (decide (i < k) && mutB R i k)
def lpsT : Nat → List (List Nat)
  | 0 => []
  | i + 1 => lpsT i ++ (if lpSeen R i i || !R i i then [] else [lpL n R i])
variable {n R}
theorem mutB_symm (i k : Nat) : mutB R i k = mutB R k i := by simp [mutB, Bool.and_comm]
theorem mutB_trans (ht : ∀ i k m, R i k = true → R k m = true → R i m = true) {i k m : Nat} (h1 : mutB R i k = true) (h2 : mutB R k m = true) : mutB R i m = true := by
  simp only [mutB, Bool.and_eq_true] at *
  exact ⟨ht _ _ _ h1.1 h2.1, ht _ _ _ h2.2 h1.2⟩
theorem lpSeen_iff {i k : Nat} : lpSeen R i k = true ↔ ∃ j, j < i ∧ j < k ∧ mutB R j k = true := by
  simp [lpSeen]
/-- A node that was seen adds nothing. -/
theorem lpSeen_skip (ht : ∀ i k m, R i k = true → R k m = true → R i m = true) {i : Nat} (h : lpSeen R i i = true) (k : Nat) : lpSeen R (i + 1) k = lpSeen R i k := by
  rw [Bool.eq_iff_iff, lpSeen_iff, lpSeen_iff]
  constructor
  · rintro ⟨j, h1, h2, h3⟩
    by_cases e : j = i
    · subst e
      obtain ⟨j', a1, a2, a3⟩ := lpSeen_iff.1 h
      exact ⟨j', a1, by omega, mutB_trans ht a3 h3⟩
    · exact ⟨j, by omega, h2, h3⟩
  · rintro ⟨j, h1, h2, h3⟩
    exact ⟨j, by omega, h2, h3⟩
theorem lpSeen_succ (i k : Nat) : lpSeen R (i + 1) k = (lpSeen R i k || (decide (i < k) && mutB R i k)) := by
  unfold lpSeen
  rw [List.range_succ, List.any_append]
  simp
/-- A loop has at least two nodes. -/
theorem lpL_two (hself : ∀ i, R i i = true → ∃ k, k < n ∧ k ≠ i ∧ R i k = true ∧ R k i = true) (ht : ∀ i k m, R i k = true → R k m = true → R i m = true) {i : Nat} (hi : i < n) (h : lpSeen R i i = false) : decide (1 < (lpL n R i).length) = R i i := by
  have hmem : i ∈ lpL n R i := by simp [lpL, hi]
  rw [Bool.eq_iff_iff, decide_eq_true_eq]
  constructor
  · intro h1
    have hnd : (lpL n R i).Nodup := List.nodup_range.filter _
    have : ∃ k ∈ lpL n R i, k ≠ i := by
      refine Classical.byContradiction fun hc => ?_
      have hall : ∀ k ∈ lpL n R i, k = i := fun k hk => Classical.byContradiction fun e => hc ⟨k, hk, e⟩
      match hl : lpL n R i, hnd, hall with
      | [], _, _ => rw [hl] at h1; simp at h1
      | [x], _, _ => rw [hl] at h1; simp at h1
      | x :: y :: r, hn, ha =>
        have e1 := ha x (by simp)
        have e2 := ha y (by simp)
        simp [e1, e2] at hn
    obtain ⟨k, hk, hne⟩ := this
    simp [lpL, hne] at hk
    have := hk.2.2
    simp only [mutB, Bool.and_eq_true] at this
    exact ht _ _ _ this.1 this.2
  · intro h1
    obtain ⟨k, hk, hne, h2, h3⟩ := hself i h1
    have hlt : i < k := by
      refine Classical.byContradiction fun hc => ?_
      have : lpSeen R i i = true := lpSeen_iff.2 ⟨k, by omega, by omega, by simp [mutB, h2, h3]⟩
      rw [h] at this; cases this
    have hkm : k ∈ lpL n R i := by simp [lpL, hk, hlt, mutB, h2, h3]
    match hl : lpL n R i with
    | [] => rw [hl] at hmem; simp at hmem
    | [x] => rw [hl] at hmem hkm; simp at hmem hkm; omega
    | x :: y :: r => simp
/-- What was done, for the reference. -/
def lpDone (R : Nat → Nat → Bool) (i k : Nat) : Bool := (List.range i).any fun j => mutB R j k
end
end Go.Gv

namespace Go.Gv
theorem exists_min {r : Nat → Nat → Prop} (hi : ∀ x, ¬ r x x) (ht : ∀ x y z, r x y → r y z → r x z) : ∀ (l : List Nat), l ≠ [] → ∃ m ∈ l, ∀ x ∈ l, ¬ r x m
  | [], h => absurd rfl h
  | [x], _ => ⟨x, by simp, fun y hy => by simp at hy; subst hy; exact hi y⟩
  | x :: y :: l, _ => by
    obtain ⟨m, h1, h2⟩ := exists_min hi ht (y :: l) (by simp)
    by_cases e : r x m
    · refine ⟨x, by simp, fun z hz => ?_⟩
      rcases List.mem_cons.1 hz with rfl | hz
      · exact hi z
      · exact fun hzx => h2 z hz (ht _ _ _ hzx e)
    · refine ⟨m, by simp [h1], fun z hz => ?_⟩
      rcases List.mem_cons.1 hz with rfl | hz
      · exact e
      · exact h2 z hz
theorem ordN_len_or (n : Nat) (es : List Edg) : ∀ m, (ordN n es m).length = m ∨ rdyL n es (ordN n es m) = []
  | 0 => .inl rfl
  | m + 1 => by
    rcases ordN_len_or n es m with h | h
    · cases hr : rdyL n es (ordN n es m) with
      | nil => exact .inr (by rw [show ordN n es (m + 1) = ordN n es m from ordN_fix hr 1, hr])
      | cons i r => exact .inl (by rw [ordN_succ hr]; simp [h])
    · exact .inr (by rw [show ordN n es (m + 1) = ordN n es m from ordN_fix h 1, h])
theorem OrdI.closed {n : Nat} {es : List Edg} {out : List Nat} (h : OrdI n es out) {u v : Nat} (hp : Pth es u v) (hv : v ∈ out) : u ∈ out := by
  induction hp with
  | refl v => exact hv
  | step e _ ih => exact h.pre _ (ih hv) _ e
theorem wyB_last {es : List Edg} {i k : Nat} (h : wyB es i k = true) : ∃ t, Pth es i t ∧ (t, k) ∈ es := by
  obtain ⟨s, e, hp⟩ := wyB_iff.1 h
  have last : ∀ {u s w : Nat}, (u, s) ∈ es → Pth es s w → ∃ t, Pth es u t ∧ (t, w) ∈ es := by
    intro u s w h1 h2
    induction h2 generalizing u with
    | refl v => exact ⟨u, .refl u, h1⟩
    | step e _ ih =>
      obtain ⟨t, h3, h4⟩ := ih e
      exact ⟨t, .step h1 h3, h4⟩
  exact last e hp
theorem ordN_acyc {n : Nat} {es : List Edg} : ∀ m v, v ∈ ordN n es m → wyB es v v = false
  | 0, v, h => by simp [ordN] at h
  | m + 1, v, h => by
    cases hr : rdyL n es (ordN n es m) with
    | nil => exact ordN_acyc m v (by rwa [show ordN n es (m + 1) = ordN n es m from ordN_fix hr 1] at h)
    | cons i r =>
      rw [ordN_succ hr] at h
      rcases List.mem_append.1 h with h | h
      · exact ordN_acyc m v h
      · simp at h
        subst h
        obtain ⟨h1, h2, h3⟩ := mem_rdyL.1 (show v ∈ rdyL n es (ordN n es m) by rw [hr]; simp)
        refine Bool.eq_false_iff.2 fun hw => ?_
        obtain ⟨t, p, e⟩ := wyB_last hw
        exact h2 ((ordN_I n es m).closed p (h3 t e))
theorem ord_acyc {n : Nat} {es : List Edg} (hg : inG n es) : decide ((ordF n es).length = n) = !(List.range n).any (fun i => wyB es i i) := by
  have hI : OrdI n es (ordF n es) := ordN_I n es n
  rw [Bool.eq_iff_iff]
  simp only [decide_eq_true_eq, Bool.not_eq_true', List.any_eq_false, List.mem_range, Bool.not_eq_true]
  constructor
  · intro h v hv
    refine ordN_acyc (n := n) n v ?_
    show v ∈ ordF n es
    refine Classical.byContradiction fun hc => ?_
    have hsub : (v :: ordF n es) ⊆ List.range n := fun x hx => by
      rcases List.mem_cons.1 hx with rfl | hx
      · simpa using hv
      · simpa using hI.lt x hx
    have := List.Nodup.length_le_of_subset (List.nodup_cons.2 ⟨hc, hI.nd⟩) hsub
    simp at this
    omega
  · intro h
    refine Classical.byContradiction fun hne => ?_
    have hr : rdyL n es (ordF n es) = [] := (ordN_len_or n es n).elim (fun e => absurd e hne) _root_.id
    have hlt := ordF_len n es
    have hU : ((List.range n).filter fun v => !(ordF n es).contains v) ≠ [] := by
      intro e
      have hall : ∀ v, v < n → v ∈ ordF n es := fun v hv => by
        have : v ∉ (List.range n).filter fun v => !(ordF n es).contains v := by rw [e]; simp
        simpa [hv] using this
      have := List.Nodup.length_le_of_subset (List.nodup_range (n := n)) (fun v hv => hall v (by simpa using hv))
      simp at this
      omega
    obtain ⟨m, h1, h2⟩ := exists_min (r := fun u v => u < n ∧ v < n ∧ wyB es u v = true) (fun x ⟨hx, _, hw⟩ => by rw [h x hx] at hw; cases hw) (fun x y z ⟨a1, _, a2⟩ ⟨_, a3, a4⟩ => ⟨a1, a3, wyB_trans a2 a4⟩) _ hU
    simp at h1
    have hnr : m ∉ rdyL n es (ordF n es) := by rw [hr]; simp
    rw [mem_rdyL] at hnr
    have : ∃ u, (u, m) ∈ es ∧ u ∉ ordF n es := by
      refine Classical.byContradiction fun hc => hnr ⟨h1.1, h1.2, fun u hu => ?_⟩
      exact Classical.byContradiction fun hu2 => hc ⟨u, hu, hu2⟩
    obtain ⟨u, hu, hu2⟩ := this
    have hun : u < n := (hg _ hu).1
    exact h2 u (by simp [hun, hu2]) ⟨hun, h1.1, wyB_iff.2 ⟨m, hu, .refl m⟩⟩
/-- No loop, no node with a way to itself. -/
theorem lpsT_nil {n : Nat} {R : Nat → Nat → Bool} (ht : ∀ i k m, R i k = true → R k m = true → R i m = true) : lpsT n R n = [] ↔ ∀ i, i < n → R i i = false := by
  have key : ∀ K, lpsT n R K = [] ↔ ∀ i, i < K → (lpSeen R i i || !R i i) = true := by
    intro K
    induction K with
    | zero => simp [lpsT]
    | succ K ih =>
      unfold lpsT
      rw [List.append_eq_nil_iff, ih]
      constructor
      · rintro ⟨h1, h2⟩ i hi
        by_cases e : i = K
        · subst e
          refine Classical.byContradiction fun hc => ?_
          rw [if_neg hc] at h2
          cases h2
        · exact h1 i (by omega)
      · intro h
        exact ⟨fun i hi => h i (by omega), by rw [if_pos (h K (by omega))]⟩
  rw [key]
  constructor
  · intro h
    have : ∀ m i, i ≤ m → i < n → R i i = false := by
      intro m
      induction m with
      | zero =>
        intro i hi hn
        have := h i hn
        have e : i = 0 := by omega
        subst e
        simpa [lpSeen] using this
      | succ m ih =>
        intro i hi hn
        by_cases e : i ≤ m
        · exact ih i e hn
        · have h1 := h i hn
          rw [Bool.or_eq_true] at h1
          rcases h1 with h1 | h1
          · obtain ⟨j, a1, a2, a3⟩ := lpSeen_iff.1 h1
            have := ih j (by omega) (by omega)
            simp only [mutB, Bool.and_eq_true] at a3
            rw [ht _ _ _ a3.1 a3.2] at this; cases this
          · simpa using h1
    exact fun i hi => this i i (Nat.le_refl _) hi
  · intro h i hi
    rw [h i hi]; simp
end Go.Gv

set_option linter.unusedSimpArgs false
namespace Go.Gv
noncomputable def clsR (n : Nat) (es : List Edg) (j : Nat) : List (List D) := (List.range j).map fun i => [D.sl (boolA n (rB es [i]))]
theorem clsR_len (n : Nat) (es : List Edg) (j : Nat) : (clsR n es j).length = j := by simp [clsR]
theorem clsR_zero (n : Nat) (es : List Edg) : clsR n es 0 = [] := rfl
theorem clsR_succ (n : Nat) (es : List Edg) (j : Nat) : clsR n es j ++ [[D.sl (boolA n (rB es [j]))]] = clsR n es (j + 1) := by simp [clsR, List.range_succ]
theorem clsR_V (n : Nat) (es : List Edg) (j : Nat) : (clsR n es j).map (fun e => e.map cellV) = clsR n es j := by
  unfold clsR
  rw [List.map_map]
  apply List.map_congr_left
  intro v _
  simp [cellV]
theorem clsR_get {n : Nat} {es : List Edg} {j i : Nat} (h : i < j) : (clsR n es j)[i]? = some [D.sl (boolA n (rB es [i]))] := by simp [clsR, h]
/-- The rows of a table of truths, so far as they are made. -/
def iniR (n j : Nat) : List (List D) := (List.range n).map fun i => [D.own 1 (if i < j then boolA n (fun _ => false) else [])]
def ownR (n : Nat) (f : Nat → Nat → Bool) : List (List D) := (List.range n).map fun i => [D.own 1 (boolA n (f i))]
theorem iniR_get {n j i : Nat} (h : i < n) : (iniR n j)[i]? = some [D.own 1 (if i < j then boolA n (fun _ => false) else [])] := by simp [iniR, h]
theorem iniR_set {n j : Nat} : (iniR n j).set j [D.own 1 (boolA n fun _ => false)] = iniR n (j + 1) := by
  unfold iniR
  rw [set_rm]
  apply List.map_congr_left
  intro v _
  by_cases e : v = j
  · subst e; simp
  · have : (v < j) = (v < j + 1) := by apply propext; omega
    simp only [if_neg e, this]
theorem iniR_zero (n : Nat) : List.replicate n [D.own 1 []] = iniR n 0 := by simp [iniR, List.map_const']
theorem iniR_end (n : Nat) : iniR n n = ownR n fun _ _ => false := by
  unfold iniR ownR
  apply List.map_congr_left
  intro v hv
  rw [if_pos (by simpa using hv)]
theorem ownR_len (n : Nat) (f : Nat → Nat → Bool) : (ownR n f).length = n := by simp [ownR]
theorem ownR_get {n i : Nat} (f : Nat → Nat → Bool) (h : i < n) : (ownR n f)[i]? = some [D.own 1 (boolA n (f i))] := by simp [ownR, h]
theorem ownR_set {n i k : Nat} (f : Nat → Nat → Bool) (x : Bool) : (ownR n f).set i [D.own 1 ((boolA n (f i)).set k [.bool x])] = ownR n fun u v => if u = i ∧ v = k then x else f u v := by
  unfold ownR
  rw [set_rm]
  apply List.map_congr_left
  intro v _
  by_cases e : v = i
  · subst e
    rw [if_pos rfl, boolA_set]
    congr 3
    funext u
    simp
  · rw [if_neg e]
    congr 3
    funext u
    simp [e]
theorem ownR_V (n : Nat) (f : Nat → Nat → Bool) : (ownR n f).map (fun e => e.map cellV) = (List.range n).map fun i => [D.sl (boolA n (f i))] := by
  unfold ownR
  rw [List.map_map]
  apply List.map_congr_left
  intro v _
  simp [cellV]
/-- What the edges so far lead to; row i, up to column k, with one edge more. -/
noncomputable def wyJ (es : List Edg) (j : Nat) (i k : Nat) : Bool := (es.take j).any fun e => decide (e.1 = i) && rB es [e.2] k
noncomputable def wyK (es : List Edg) (j c : Nat) (i k : Nat) : Bool := if k < c then wyJ es (j + 1) i k else wyJ es j i k
theorem wyJ_zero (es : List Edg) : wyJ es 0 = fun _ _ => false := by funext i k; simp [wyJ]
theorem wyJ_succ {es : List Edg} {j : Nat} (h : j < es.length) (i k : Nat) : wyJ es (j + 1) i k = (wyJ es j i k || (decide (es[j].1 = i) && rB es [es[j].2] k)) := by
  unfold wyJ
  rw [List.take_succ_eq_append_getElem h, List.any_append]
  simp
theorem wyJ_end (es : List Edg) (i k : Nat) : wyJ es es.length i k = wyB es i k := by
  rw [Bool.eq_iff_iff, wyB_iff]
  unfold wyJ
  rw [List.take_length]
  simp only [List.any_eq_true, Bool.and_eq_true, decide_eq_true_eq, rB_iff]
  constructor
  · rintro ⟨⟨a, b⟩, h1, rfl, s, hs, hp⟩
    simp at hs; subst hs
    exact ⟨s, h1, hp⟩
  · rintro ⟨s, h1, hp⟩
    exact ⟨(i, s), h1, rfl, s, by simp, hp⟩
theorem wyK_step {es : List Edg} {j c n : Nat} (h : j < es.length) {x : Bool} (hx : x = (wyJ es j es[j].1 c || rB es [es[j].2] c)) : ownR n (fun u v => if u = es[j].1 ∧ v = c then x else wyK es j c u v) = ownR n (wyK es j (c + 1)) := by
  congr 1
  funext u v
  unfold wyK
  by_cases e2 : v = c
  · subst e2
    rw [if_neg (Nat.lt_irrefl v), if_pos (Nat.lt_succ_self v), wyJ_succ h]
    by_cases e1 : u = es[j].1
    · subst e1; simp [hx]
    · have : ¬ es[j].1 = u := fun e => e1 e.symm
      simp [e1, this]
  · have e3 : (v < c) = (v < c + 1) := by apply propext; omega
    simp only [e2, and_false, if_false, e3]
noncomputable def wayD (n : Nat) (es : List Edg) : D := .sl ((List.range n).map fun i => [.sl (boolA n (wyB es i))])
variable {C : CC} (hC : Closed prog C)
include hC
theorem gClos_c (hS : SlC C) {b : Bool} {n : Nat} {es : List Edg} (hn : n ≤ 300) (he : es.length ≤ 1000) (hg : inG n es) : C 635 [.int .i64 n, slx b (es.map edK)] (.tup [.sl (clsR n es n), .int .i64 0]) [] := by
  have k0 := gValid_c hC b n (es.map edI) (by simp; omega)
  rw [← edK_map, gOk_of hC hn he hg] at k0
  have k1 := next_c hC hS (b := b) hn he hg
  refine start hC (nf := N635_digraph_Closure) rfl rfl ?_
  simp [N635_digraph_Closure]
  refine callW_of k0 (.inl rfl) ?_
  simp
  refine callW_of k1 (.inr rfl) ?_
  obtain ⟨X, hX⟩ : ∃ X, nxtD n es = .sl X := ⟨_, rfl⟩
  simp [hX]
  refine loop_of Nat (fun j => [(6, .sl X), (7, .ref (.r 10112) 0 j), (10112, .blk 1 (clsR n es j)), (16, .int .i64 n), (17, .int .i64 j)]) (fun j => j ≤ n) (fun j => n - j) 0 (by simp) (by simp [clsR_zero]) ?_
  intro j hj
  simp
  refine brB_of (fun h => ?_) (fun h => ?_) <;> simp at h
  · have hw : IntKind.wrap .i64 ((j : Int) + 1) = ((j + 1 : Nat) : Int) := wrap_i64 (by omega) (by omega)
    have k2 := reach_c hC (b := false) hn hg [j] (by simp; omega) (by simp)
    rw [hX] at k2
    simp [h]
    refine callW_of k2 (.inr rfl) ?_
    simp [clsR_len]
    have e : List.take j (clsR n es j) = clsR n es j := List.take_of_length_le (by rw [clsR_len]; exact Nat.le_refl _)
    exact ⟨by omega, j + 1, by omega, by omega, rfl, by rw [e, clsR_succ], hw⟩
  · have ej : j = n := by omega
    subst ej
    simp [h, clsR_len, clsR_V]
    exact (List.take_of_length_le (by rw [clsR_len]; exact Nat.le_refl _)).symm
theorem ends_c (b1 b2 : Bool) (ns : List Nod) (ls : List Lnk) (hv : netOk ns ls = true) (hcv : ∀ l ∈ ls, l.curve.length < 2 ^ 62) : C 627 [.agg [slx b1 (ns.map nodC), slx b2 (ls.map lnkC)]] (.sl ((edgN ns ls).map edK)) [] := by
  have k1 := NEdges_c hC b1 b2 ns ls hcv
  rw [hv] at k1
  simp only [if_true] at k1
  refine start hC (nf := N627_checker_ends) rfl rfl ?_
  simp [N627_checker_ends]
  refine callW_of k1 (.inr rfl) ?_
  simp
set_option maxHeartbeats 2000000 in
theorem cWays_c (hS : SlC C) (b1 b2 : Bool) (ns : List Nod) (ls : List Lnk) (hv : netOk ns ls = true) (hcv : ∀ l ∈ ls, l.curve.length < 2 ^ 62) : C 600 [.agg [slx b1 (ns.map nodC), slx b2 (ls.map lnkC)]] (wayD ns.length (edgN ns ls)) [] := by
  have hn : ns.length ≤ 300 := (netOk_len hv).1
  have he : (edgN ns ls).length ≤ 1000 := by rw [edgN_len]; have := (netOk_len hv).2; omega
  have hg : inG ns.length (edgN ns ls) := edgN_in hv
  have k1 := ends_c hC b1 b2 ns ls hv hcv
  have k2 := gClos_c hC hS (b := false) hn he hg
  rw [slx_false] at k2
  generalize edgN ns ls = es at *
  obtain ⟨X, hX, hXg⟩ : ∃ X, X = clsR ns.length es ns.length ∧ ∀ i, i < ns.length → X[i]? = some [D.sl (boolA ns.length (rB es [i]))] := ⟨_, rfl, fun i hi => clsR_get hi⟩
  rw [← hX] at k2
  clear hX
  refine start hC (nf := N600_checker_ways) rfl rfl ?_
  simp [N600_checker_ways]
  refine callW_of k1 (.inr rfl) ?_
  simp
  refine callW_of k2 (.inr rfl) ?_
  simp [iniR_zero]
  refine ⟨by omega, ?_⟩
  refine loop_of Nat (fun j => [(1, .ptr [slx b1 (ns.map nodC), slx b2 (ls.map lnkC)]), (3, .sl (es.map edK)), (4, .sl X), (6, .ref (.r 10096) 0 ns.length), (10096, .blk 1 (iniR ns.length j)), (27, .int .i64 ns.length), (28, .int .i64 j)]) (fun j => j ≤ ns.length) (fun j => ns.length - j) 0 (by simp) (by simp) ?_
  intro j hj
  simp
  refine brB_of (fun h => ?_) (fun h => ?_) <;> simp at h
  · have hw : IntKind.wrap .i64 ((j : Int) + 1) = ((j + 1 : Nat) : Int) := wrap_i64 (by omega) (by omega)
    have hg0 := iniR_get (j := j) h
    rw [if_neg (Nat.lt_irrefl j)] at hg0
    simp [h, hw, hg0]
    have e1 : (iniR ns.length j).set j [D.own 1 (List.replicate ns.length [D.bool false])] = iniR ns.length (j + 1) := by
      rw [← iniR_set]
      congr 3
      simp [boolA, rep_map]
    rw [e1]
    exact ⟨by omega, j + 1, by omega, by omega, rfl, rfl⟩
  · have ej : j = ns.length := by omega
    subst ej
    have e2 : iniR ns.length ns.length = ownR ns.length (wyJ es 0) := by rw [iniR_end, wyJ_zero]
    simp [h, e2]
    refine loop_of Nat (fun j => [(4, .sl X), (6, .ref (.r 10096) 0 ns.length), (10096, .blk 1 (ownR ns.length (wyJ es j))), (39, .sl (es.map edK)), (40, .int .i64 es.length), (41, .int .i64 j)]) (fun j => j ≤ es.length) (fun j => es.length - j) 0 (by simp) (by simp) ?_
    intro j hj
    simp
    refine brB_of (fun h => ?_) (fun h => ?_) <;> simp at h
    · have hw : IntKind.wrap .i64 ((j : Int) + 1) = ((j + 1 : Nat) : Int) := wrap_i64 (by omega) (by omega)
      have hin := hg es[j] (List.getElem_mem _)
      obtain ⟨i, e, hie⟩ : ∃ i e, es[j] = (i, e) := ⟨_, _, rfl⟩
      simp [hie] at hin
      simp [h, edK, knD, hie, idxW_some (hXg e hin.2)]
      have hB := boolA_len ns.length (rB es [e])
      rw [hB]
      refine loop_of Nat (fun c => [(4, .sl X), (6, .ref (.r 10096) 0 ns.length), (9, .adr (.r 10144) 0 0), (39, .sl (es.map edK)), (40, .int .i64 es.length), (41, .int .i64 j), (49, .sl (boolA ns.length (rB es [e]))), (50, .int .i64 ns.length), (51, .int .i64 c), (10096, .blk 1 (ownR ns.length (wyK es j c))), (10144, .blk 2 [[.int .i64 i, .int .i64 e]])]) (fun c => c ≤ ns.length) (fun c => ns.length - c) 0 (by simp) (by
        have : ownR ns.length (wyK es j 0) = ownR ns.length (wyJ es j) := by unfold wyK; simp
        simp [this]) ?_
      intro c hc
      simp
      refine brB_of (fun h2 => ?_) (fun h2 => ?_) <;> simp at h2
      · have hw2 : IntKind.wrap .i64 ((c : Int) + 1) = ((c + 1 : Nat) : Int) := wrap_i64 (by omega) (by omega)
        have hrow := ownR_get (wyK es j c) hin.1
        have hcell := boolA_get (wyK es j c i) h2
        have hval : wyK es j c i c = wyJ es j i c := by simp [wyK]
        have hset : ∀ x, x = (wyJ es j i c || rB es [e] c) → (ownR ns.length (wyK es j c)).set i [D.own 1 ((boolA ns.length (wyK es j c i)).set c [D.bool x])] = ownR ns.length (wyK es j (c + 1)) := fun x hx => by
          rw [ownR_set]
          have := wyK_step (n := ns.length) (c := c) h (x := x) (by rw [hie]; exact hx)
          rw [hie] at this
          exact this
        have hrowE : (ownR ns.length (wyK es j c))[i]'(by rw [ownR_len]; exact hin.1) = [D.own 1 (boolA ns.length (wyK es j c i))] := (List.getElem?_eq_some_iff.1 hrow).2
        simp [h2, hw2, idxW_some (boolA_get (rB es [e]) h2), rowW_some hrow, hrow, hin.1, ownR_len, boolA_len, hrowE, rowW_some hcell, hval]
        have hcellE : (boolA ns.length (wyK es j c i))[c]'(by rw [boolA_len]; exact h2) = [D.bool (wyJ es j i c)] := (List.getElem?_eq_some_iff.1 hcell).2.trans (by rw [hval])
        refine brB_of (fun hv1 => ?_) (fun hv1 => ?_)
        · have e3 := hset true (by rw [hv1]; rfl)
          rw [hv1]
          simp [hrow, hrowE, hin.1, h2, ownR_len, boolA_len, rowW_some hrow, rowW_some hcell, hval, hcellE, e3, hw2]
          exact ⟨indW_of (by decide +kernel), c + 1, by omega, by omega, by omega, rfl⟩
        · have e3 := hset (rB es [e] c) (by rw [hv1]; rfl)
          rw [hv1]
          simp [hrow, hrowE, hin.1, h2, ownR_len, boolA_len, rowW_some hrow, rowW_some hcell, hval, hcellE, e3, hw2]
          exact ⟨indW_of (by decide +kernel), c + 1, by omega, by omega, by omega, rfl⟩
      · have ec : c = ns.length := by omega
        subst ec
        have e4 : ownR ns.length (wyK es j ns.length) = ownR ns.length (wyJ es (j + 1)) := by
          unfold ownR
          apply List.map_congr_left
          intro u _
          rw [boolA_congr (g := wyJ es (j + 1) u) fun v hv => by simp [wyK, hv]]
        simp [h2, hw, e4]
        exact ⟨j + 1, by omega, by omega, rfl, by omega⟩
    · have ej : j = es.length := by omega
      subst ej
      simp [h, ownR_len, ownR_V]
      unfold wayD
      rw [List.take_of_length_le (by simp)]
      congr 1
      apply List.map_congr_left
      intro i _
      rw [boolA_congr fun v _ => wyJ_end es i v]
end Go.Gv

set_option linter.unusedSimpArgs false
namespace Go.Gv
def nodK (ns : List Nod) (k : Nat) : Int := (ns[k]?.map (·.kind)).getD 0
theorem nodK_get {ns : List Nod} {k : Nat} (h : k < ns.length) : nodK ns k = ns[k].kind := by simp [nodK, h]
def backB (l : Lnk) : Bool := decide (l.kind = 1) && decide (l.up < l.down)
noncomputable def lostB (ns : List Nod) (es : List Edg) (i : Nat) : Bool := !decide (nodK ns i = 3) && !((List.range ns.length).any fun k => wyB es i k && decide (nodK ns k = 3))
/-- The names of the links that f takes. -/
def lmT (ls : List Lnk) (f : Lnk → Bool) (j : Nat) : List (List UInt8) := ((ls.take j).filter f).map (·.name)
theorem lmT_zero (ls : List Lnk) (f : Lnk → Bool) : lmT ls f 0 = [] := by simp [lmT]
theorem lmT_succ {ls : List Lnk} (f : Lnk → Bool) {j : Nat} (h : j < ls.length) : lmT ls f (j + 1) = lmT ls f j ++ (if f ls[j] = true then [ls[j].name] else []) := by
  unfold lmT
  rw [List.take_succ_eq_append_getElem h, List.filter_append, List.map_append]
  by_cases e : f ls[j] = true <;> simp [e]
theorem lmT_len (ls : List Lnk) (f : Lnk → Bool) (j : Nat) : (lmT ls f j).length ≤ j := by
  unfold lmT
  rw [List.length_map]
  exact Nat.le_trans (List.length_filter_le _ _) (by simp; omega)
theorem strR_isC (l : List (List UInt8)) : ∀ e ∈ strR l, ∀ c ∈ e, isC1 c = true := by
  intro e he c hc
  obtain ⟨x, _, rfl⟩ := List.mem_map.1 he
  simp at hc; subst hc; rfl
theorem strR_snoc (l : List (List UInt8)) (s : List UInt8) : strR l ++ [[.str s]] = strR (l ++ [s]) := by simp [strR]
theorem strR_tk (l : List (List UInt8)) : (strR l).take l.length = strR l := List.take_of_length_le (by rw [strR_len]; exact Nat.le_refl _)
/-! ### The loop of a node, so far as it is known -/
def lpLk (R : Nat → Nat → Bool) (i k : Nat) : List Nat := (List.range k).filter fun k' => decide (k' = i) || (decide (i < k') && mutB R i k')
theorem lpLk_one (R : Nat → Nat → Bool) (i : Nat) : lpLk R i (i + 1) = [i] := by
  unfold lpLk
  rw [List.range_succ, List.filter_append]
  have : (List.range i).filter (fun k' => decide (k' = i) || (decide (i < k') && mutB R i k')) = [] := by
    rw [List.filter_eq_nil_iff]
    intro k hk
    have : k < i := by simpa using hk
    simp
    omega
  rw [this]
  simp
theorem lpLk_succ (R : Nat → Nat → Bool) {i k : Nat} (h : i < k) : lpLk R i (k + 1) = lpLk R i k ++ (if mutB R i k = true then [k] else []) := by
  unfold lpLk
  rw [List.range_succ, List.filter_append]
  congr 1
  by_cases e : mutB R i k = true
  · simp [e, h]
  · have : ¬ k = i := by omega
    simp [e, this]
theorem lpLk_len (R : Nat → Nat → Bool) (i k : Nat) : (lpLk R i k).length ≤ k := by
  have := List.length_filter_le (fun k' => decide (k' = i) || (decide (i < k') && mutB R i k')) (List.range k)
  simpa [lpLk] using this
def lpS (R : Nat → Nat → Bool) (i k v : Nat) : Bool := if v < k then lpSeen R (i + 1) v else lpSeen R i v
theorem lpS_one (R : Nat → Nat → Bool) (i : Nat) : lpS R i (i + 1) = lpSeen R i := by
  funext v
  unfold lpS
  split
  · rw [lpSeen_succ]
    have : ¬ i < v := by omega
    simp [this]
  · rfl
theorem lpS_step {R : Nat → Nat → Bool} {i k : Nat} (h : i < k) (n : Nat) : boolA n (lpS R i (k + 1)) = if mutB R i k = true then (boolA n (lpS R i k)).set k [.bool true] else boolA n (lpS R i k) := by
  have e2 : ∀ v, v ≠ k → lpS R i (k + 1) v = lpS R i k v := fun v hv => by
    unfold lpS
    have : (v < k + 1) = (v < k) := by apply propext; omega
    simp only [this]
  have e1 : lpS R i (k + 1) k = (lpSeen R i k || mutB R i k) := by
    unfold lpS
    rw [if_pos (by omega), lpSeen_succ]
    simp [h]
  split
  · rename_i e
    rw [boolA_set]
    apply boolA_congr
    intro v _
    by_cases hv : v = k
    · subst hv; rw [e1, e]; simp
    · simp only [if_neg hv, e2 v hv]
  · rename_i e
    apply boolA_congr
    intro v _
    by_cases hv : v = k
    · subst hv
      rw [e1]
      have : lpS R i v v = lpSeen R i v := by simp [lpS]
      rw [this]
      simp at e
      simp [e]
    · exact e2 v hv
def lpR (ns : List Nod) (l : List (List Nat)) : List (List D) := l.map fun x => [.own 1 (strR (x.map (nodNm ns)))]
theorem lpR_len (ns : List Nod) (l : List (List Nat)) : (lpR ns l).length = l.length := by simp [lpR]
theorem lpR_snoc (ns : List Nod) (l : List (List Nat)) (x : List Nat) : lpR ns l ++ [[.own 1 (strR (x.map (nodNm ns)))]] = lpR ns (l ++ [x]) := by simp [lpR]
theorem lpR_tk (ns : List Nod) (l : List (List Nat)) : (lpR ns l).take l.length = lpR ns l := List.take_of_length_le (by rw [lpR_len]; exact Nat.le_refl _)
/-- Lists of names. -/
def lstD (l : List (List (List UInt8))) : List (List D) := l.map fun x => [.sl (strR x)]
theorem lpR_V (ns : List Nod) (l : List (List Nat)) : (lpR ns l).map (fun e => e.map cellV) = lstD (l.map fun x => x.map (nodNm ns)) := by
  unfold lpR lstD
  rw [List.map_map, List.map_map]
  apply List.map_congr_left
  intro v _
  simp [cellV]
theorem lpsT_len (n : Nat) (R : Nat → Nat → Bool) : ∀ i, (lpsT n R i).length ≤ i
  | 0 => by simp [lpsT]
  | i + 1 => by
    have := lpsT_len n R i
    unfold lpsT
    split <;> simp <;> omega
/-- The loops, by their names. -/
noncomputable def loopN (ns : List Nod) (es : List Edg) : List (List (List UInt8)) := (lpsT ns.length (wyB es) ns.length).map fun x => x.map (nodNm ns)
variable {C : CC} (hC : Closed prog C)
include hC
theorem back_c (l : Lnk) : C 601 [.agg (lnkC l)] (.bool (backB l)) [] := by
  refine start hC (nf := N601_checker_isBackwards) rfl rfl ?_
  simp [N601_checker_isBackwards, lnkC]
  unfold backB
  refine brB_of (fun h => ?_) (fun h => ?_) <;> simp at h <;> simp [h]
theorem isLost_c (b1 b2 : Bool) (ns : List Nod) (ls : List Lnk) (es : List Edg) (i : Nat) (hn : ns.length ≤ 300) (hi : i < ns.length) : C 602 [.agg [slx b1 (ns.map nodC), slx b2 (ls.map lnkC)], wayD ns.length es, .int .i64 i] (.bool (lostB ns es i)) [] := by
  obtain ⟨X, hX, hXg⟩ : ∃ X, wayD ns.length es = .sl X ∧ ∀ i, i < ns.length → X[i]? = some [D.sl (boolA ns.length (wyB es i))] := ⟨_, rfl, fun i hi => by simp [hi]⟩
  rw [hX]
  have hB := boolA_len ns.length (wyB es i)
  refine start hC (nf := N602_checker_isLost) rfl rfl ?_
  simp [N602_checker_isLost, nodC, hi]
  unfold lostB
  rw [nodK_get hi]
  refine brB_of (fun h => ?_) (fun h => ?_) <;> simp at h
  · simp [h]
  · simp [h, idxW_some (hXg i hi), hB]
    refine loop_of Nat (fun c => [(3, .ptr [slx b1 (ns.map nodC), slx b2 (ls.map lnkC)]), (19, .sl (boolA ns.length (wyB es i))), (20, .int .i64 ns.length), (21, .int .i64 c)]) (fun c => c ≤ ns.length ∧ ∀ k, k < c → (wyB es i k && decide (nodK ns k = 3)) = false) (fun c => ns.length - c) 0 ⟨by omega, by simp⟩ (by simp) ?_
    rintro c ⟨hc, hf⟩
    simp
    refine brB_of (fun h2 => ?_) (fun h2 => ?_) <;> simp at h2
    · have hw2 : IntKind.wrap .i64 ((c : Int) + 1) = ((c + 1 : Nat) : Int) := wrap_i64 (by omega) (by omega)
      simp [h2, idxW_some (boolA_get (wyB es i) h2)]
      refine brB_of (fun h3 => ?_) (fun h3 => ?_)
      · simp [h3, h2, nodC]
        refine brB_of (fun h4 => ?_) (fun h4 => ?_) <;> simp at h4
        · have : ((List.range ns.length).any fun k => wyB es i k && decide (nodK ns k = 3)) = true := List.any_eq_true.2 ⟨c, by simpa using h2, by simp [h3, nodK_get h2, h4]⟩
          simp [h4, this]
        · simp [h4, hw2]
          refine ⟨c + 1, ⟨by omega, fun k hk => ?_⟩, by omega, by omega⟩
          rcases (show k < c ∨ k = c by omega) with h5 | rfl
          · have := hf k h5
            simpa using this
          · simp [nodK_get h2, h4]
      · simp [h3, hw2]
        refine ⟨c + 1, ⟨by omega, fun k hk => ?_⟩, by omega, by omega⟩
        rcases (show k < c ∨ k = c by omega) with h5 | rfl
        · have := hf k h5
          simpa using this
        · simp [h3]
    · have ec : c = ns.length := by omega
      subst ec
      have : ((List.range ns.length).any fun k => wyB es i k && decide (nodK ns k = 3)) = false := by
        rw [List.any_eq_false]
        intro k hk
        rw [hf k (by simpa using hk)]; simp
      simp [h2, h, this]
theorem Adverse_c (b1 b2 : Bool) (ns : List Nod) (ls : List Lnk) (hcv : ∀ l ∈ ls, l.curve.length < 2 ^ 62) : C 556 [.agg [slx b1 (ns.map nodC), slx b2 (ls.map lnkC)]] (.tup (if netOk ns ls then [.sl (strR (lmT ls backB ls.length)), .int .i64 0] else [.nils, .int .i64 1])) [] := by
  have k0 := netOk_c hC b1 b2 ns ls hcv
  refine start hC (nf := N556_checker_Adverse) rfl rfl ?_
  simp [N556_checker_Adverse]
  refine callW_of k0 (.inl rfl) ?_
  cases hv : netOk ns ls
  · simp
  have hl := (netOk_len hv).2
  simp
  refine loop_of Nat (fun j => [(4, .ref (.r 10064) 0 (lmT ls backB j).length), (10064, .blk 1 (strR (lmT ls backB j))), (11, slx b2 (ls.map lnkC)), (12, .int .i64 ls.length), (13, .int .i64 j)]) (fun j => j ≤ ls.length) (fun j => ls.length - j) 0 (by simp) (by simp [lmT_zero, strR]) ?_
  intro j hj
  simp
  refine brB_of (fun h => ?_) (fun h => ?_) <;> simp at h
  · have hw : IntKind.wrap .i64 ((j : Int) + 1) = ((j + 1 : Nat) : Int) := wrap_i64 (by omega) (by omega)
    have k1 := back_c hC ls[j]
    have hs := lmT_succ backB h
    have hlen := lmT_len ls backB j
    have ht := strR_tk (lmT ls backB j)
    have hc := strR_isC (lmT ls backB j)
    simp [h, lnkC]
    refine callW_of (by simpa [lnkC] using k1) (.inr rfl) ?_
    simp
    refine brB_of (fun h2 => ?_) (fun h2 => ?_)
    · rw [if_pos h2] at hs
      simp [h2, strR_len, ht, strR_snoc, hw]
      exact ⟨by omega, j + 1, by omega, by omega, by rw [hs]; simp, by rw [hs], by omega⟩
    · rw [if_neg (by rw [h2]; simp), List.append_nil] at hs
      simp [h2, hw]
      exact ⟨j + 1, by omega, by omega, by rw [hs], by rw [hs], by omega⟩
  · have ej : j = ls.length := by omega
    subst ej
    simp [h, strR_len, strR_V, strR_tk]
end Go.Gv

set_option linter.unusedSimpArgs false
namespace Go.Gv
theorem idxD_here {α : Type} {p : α → Bool} {xs : List α} (h : 0 ≤ idxD p xs) : ∃ h : (idxD p xs).toNat < xs.length, p xs[(idxD p xs).toNat] = true := by
  have key : ∀ i : Nat, idxD p xs = (i : Int) → ∃ h : i < xs.length, p xs[i] = true := by
    intro i h
    unfold idxD at h
    cases e : xs.findIdx? p with
    | none => rw [e] at h; simp at h
    | some k =>
      rw [e] at h
      obtain ⟨h1, h2, _⟩ := List.findIdx?_eq_some_iff_getElem.1 e
      have ek : k = i := by have h : (k : Int) = (i : Int) := h; omega
      subst ek
      exact ⟨h1, h2⟩
  exact key _ (by omega)
theorem edgN_irr {ns : List Nod} {ls : List Lnk} (hv : netOk ns ls = true) : ∀ e ∈ edgN ns ls, e.1 ≠ e.2 := by
  intro e he
  simp only [edgN, List.mem_map] at he
  obtain ⟨l, hl, rfl⟩ := he
  obtain ⟨i, hi, rfl⟩ := List.mem_iff_getElem.1 hl
  obtain ⟨h0, _, h1, h2⟩ := netOk_lnk hv hi
  obtain ⟨a1, a2⟩ := idxD_here h1
  obtain ⟨b1, b2⟩ := idxD_here h2
  intro e
  simp only at e
  have hne : ls[i].src ≠ ls[i].dst := by
    simp only [linkOk, Bool.and_eq_true, Bool.not_eq_true', decide_eq_false_iff_not] at h0
    exact h0.1.1.1.2
  simp only [nodIs, beq_iff_eq, decide_eq_true_eq] at a2 b2
  refine hne ?_
  rw [← a2, ← b2]
  congr 2
variable {C : CC} (hC : Closed prog C)
include hC
set_option maxHeartbeats 2000000 in
theorem Loops_c (hS : SlC C) (b1 b2 : Bool) (ns : List Nod) (ls : List Lnk) (hcv : ∀ l ∈ ls, l.curve.length < 2 ^ 62) : C 555 [.agg [slx b1 (ns.map nodC), slx b2 (ls.map lnkC)]] (.tup (if netOk ns ls then [.sl (lstD (loopN ns (edgN ns ls))), .int .i64 0] else [.nils, .int .i64 1])) [] := by
  have k0 := netOk_c hC b1 b2 ns ls hcv
  refine start hC (nf := N555_checker_Loops) rfl rfl ?_
  simp [N555_checker_Loops]
  refine callW_of k0 (.inl rfl) ?_
  cases hv : netOk ns ls
  · simp
  have hn := (netOk_len hv).1
  have k1 := cWays_c hC hS b1 b2 ns ls hv hcv
  have hirr := edgN_irr hv
  have hg := edgN_in hv
  simp
  refine callW_of k1 (.inr rfl) ?_
  unfold loopN
  generalize edgN ns ls = es at *
  have htr : ∀ i k m, wyB es i k = true → wyB es k m = true → wyB es i m = true := fun i k m => wyB_trans
  have htwo : ∀ {i : Nat}, i < ns.length → lpSeen (wyB es) i i = false → decide (1 < (lpL ns.length (wyB es) i).length) = wyB es i i := fun hi hs => lpL_two (fun i h => wyB_self hirr hg h) htr hi hs
  obtain ⟨X, hX, hXg⟩ : ∃ X, wayD ns.length es = .sl X ∧ ∀ i, i < ns.length → X[i]? = some [D.sl (boolA ns.length (wyB es i))] := ⟨_, rfl, fun i hi => by simp [hi]⟩
  rw [hX]
  clear hX k1
  generalize wyB es = R at *
  simp
  refine ⟨by omega, ?_⟩
  refine loop_of Nat (fun i => [(1, .ptr [slx b1 (ns.map nodC), slx b2 (ls.map lnkC)]), (4, .sl X), (5, .ref (.r 10080) 0 (lpsT ns.length R i).length), (10080, .blk 1 (lpR ns (lpsT ns.length R i))), (6, .ref (.r 10096) 0 ns.length), (10096, .blk 1 (boolA ns.length (lpSeen R i))), (21, .int .i64 ns.length), (22, .int .i64 i)]) (fun i => i ≤ ns.length) (fun i => ns.length - i) 0 (by simp) (by simp [lpsT, lpR, lpSeen, boolA, rep_map]) ?_
  intro i hi
  simp
  refine brB_of (fun h => ?_) (fun h => ?_) <;> simp at h
  · have hw : IntKind.wrap .i64 ((i : Int) + 1) = ((i + 1 : Nat) : Int) := wrap_i64 (by omega) (by omega)
    have hcell := boolA_get (lpSeen R i) h
    simp [h, rowW_some hcell]
    refine brB_of (fun h2 => ?_) (fun h2 => ?_)
    · have e1 : lpSeen R (i + 1) = lpSeen R i := funext fun k => lpSeen_skip htr h2 k
      have e2 : lpsT ns.length R (i + 1) = lpsT ns.length R i := by rw [lpsT, h2]; simp
      simp [h2, hw]
      exact ⟨i + 1, by omega, by omega, by rw [e2], by rw [e2], by rw [e1], by omega⟩
    · simp [h2, hw, nodC, h]
      refine loop_of Nat (fun k => [(1, .ptr [slx b1 (ns.map nodC), slx b2 (ls.map lnkC)]), (4, .sl X), (5, .ref (.r 10080) 0 (lpsT ns.length R i).length), (10080, .blk 1 (lpR ns (lpsT ns.length R i))), (6, .ref (.r 10096) 0 ns.length), (10096, .blk 1 (boolA ns.length (lpS R i k))), (7, .int .i64 i), (8, .ref (.r 10128) 0 (lpLk R i k).length), (10128, .blk 1 (strR ((lpLk R i k).map (nodNm ns)))), (9, .int .i64 k), (21, .int .i64 ns.length), (22, .int .i64 i)]) (fun k => i + 1 ≤ k ∧ k ≤ ns.length) (fun k => ns.length - k) (i + 1) ⟨by omega, by omega⟩ (by simp [lpS_one, lpLk_one, strR, nodNm_get h]) ?_
      rintro k ⟨hk1, hk2⟩
      simp
      refine brB_of (fun h3 => ?_) (fun h3 => ?_) <;> simp at h3
      · have hw2 : IntKind.wrap .i64 ((k : Int) + 1) = ((k + 1 : Nat) : Int) := wrap_i64 (by omega) (by omega)
        have hs := lpLk_succ R (show i < k by omega)
        have hlen := lpLk_len R i k
        have hst := lpS_step (R := R) (show i < k by omega) ns.length
        have ht : List.take (lpLk R i k).length (strR ((lpLk R i k).map (nodNm ns))) = strR ((lpLk R i k).map (nodNm ns)) := List.take_of_length_le (by rw [strR_len]; simp)
        have hc := strR_isC ((lpLk R i k).map (nodNm ns))
        have hset : boolA ns.length (lpS R i (k + 1)) = if mutB R i k = true then (boolA ns.length (lpS R i k)).set k [.bool true] else boolA ns.length (lpS R i k) := hst
        have hcl := boolA_get (lpS R i k) h3
        simp [h3, idxW_some (hXg i h), idxW_some (boolA_get (R i) h3)]
        refine brB_of (fun h4 => ?_) (fun h4 => ?_)
        · simp [h4, h3, idxW_some (hXg k h3), idxW_some (boolA_get (R k) h)]
          refine brB_of (fun h5 => ?_) (fun h5 => ?_)
          · have hm : mutB R i k = true := by simp [mutB, h4, h5]
            rw [if_pos hm] at hs hset
            simp [h5, h3, boolA_len, hcl, nodC, strR_len, ht, hw2]
            have hclE : (boolA ns.length (lpS R i k))[k]'(by rw [boolA_len]; exact h3) = [D.bool (lpS R i k k)] := (List.getElem?_eq_some_iff.1 hcl).2
            rw [hclE]
            refine ⟨by simp, by omega, k + 1, ⟨by omega, by omega⟩, by omega, by rw [hset]; rfl, by rw [hs]; simp, by rw [hs]; simp [strR, nodNm_get h3], by omega⟩
          · have hm : mutB R i k = false := by simp [mutB, h5]
            rw [hm] at hs hset
            simp at hs hset
            simp [h5, hw2]
            exact ⟨k + 1, ⟨by omega, by omega⟩, by omega, by rw [hset], by rw [hs], by rw [hs], by omega⟩
        · have hm : mutB R i k = false := by simp [mutB, h4]
          rw [hm] at hs hset
          simp at hs hset
          simp [h4, hw2]
          exact ⟨k + 1, ⟨by omega, by omega⟩, by omega, by rw [hset], by rw [hs], by rw [hs], by omega⟩
      · have ek : k = ns.length := by omega
        subst ek
        have hl1 : lpLk R i ns.length = lpL ns.length R i := rfl
        have hl2 : boolA ns.length (lpS R i ns.length) = boolA ns.length (lpSeen R (i + 1)) := boolA_congr fun v hv => by simp [lpS, hv]
        have h2b := htwo h h2
        simp [h3, hl1, hl2]
        have hlt : (decide ((1 : Int) < ((lpL ns.length R i).length : Nat))) = R i i := by
          rw [← h2b]
          apply decide_eq_decide.2
          omega
        rw [hlt]
        have e2 : lpsT ns.length R (i + 1) = lpsT ns.length R i ++ (if R i i = true then [lpL ns.length R i] else []) := by
          rw [lpsT, h2]
          cases R i i <;> simp
        have hlen := lpsT_len ns.length R i
        have hS : List.take (lpL ns.length R i).length (strR ((lpL ns.length R i).map (nodNm ns))) = strR ((lpL ns.length R i).map (nodNm ns)) := List.take_of_length_le (by rw [strR_len]; simp)
        refine brB_of (fun h5 => ?_) (fun h5 => ?_)
        · rw [if_pos h5] at e2
          rw [h5]
          simp [lpR_len, lpR_tk, hw, strR_len, hS]
          exact ⟨strR_isC _, by omega, i + 1, by omega, by omega, by rw [e2]; simp, by rw [e2, lpR_snoc], rfl, by omega⟩
        · rw [if_neg (by rw [h5]; simp), List.append_nil] at e2
          rw [h5]
          simp [hw]
          exact ⟨i + 1, by omega, by omega, by rw [e2], by rw [e2], rfl, by omega⟩
  · have ei : i = ns.length := by omega
    subst ei
    simp [h, lpR_len, lpR_V, lpR_tk]
end Go.Gv

set_option linter.unusedSimpArgs false
namespace Go.Gv
def secUse (s : Sec) : Bool := isName s.name && decide (1 ≤ s.height) && decide (s.height ≤ 32768)
def useB (l : List Sec) : Bool := decide (l.length ≤ 40) && l.all secUse && decide ((l.map (·.name)).Nodup)
/-- The height of the section of a link, or -1. -/
def hgF (l : List Sec) (k : Lnk) : Int := if k.kind = 1 then (match l.find? (fun s => s.name == k.sect) with | some s => s.height | none => -1) else -1
def hgA (l : List Sec) (ls : List Lnk) : List (List D) := ls.map fun k => [.int .i64 (hgF l k)]
theorem hgA_len (l : List Sec) (ls : List Lnk) : (hgA l ls).length = ls.length := by simp [hgA]
theorem hgA_get (l : List Sec) {ls : List Lnk} {i : Nat} (h : i < ls.length) : (hgA l ls)[i]? = some [.int .i64 (hgF l ls[i])] := by simp [hgA, h]
/-- So far as they are known. -/
def hgI (l : List Sec) (ls : List Lnk) (j : Nat) : List (List D) := (List.range ls.length).map fun i => [.int .i64 (if i < j then ((ls[i]?).map (hgF l)).getD 0 else 0)]
theorem hgI_len (l : List Sec) (ls : List Lnk) (j : Nat) : (hgI l ls j).length = ls.length := by simp [hgI]
theorem hgI_get {l : List Sec} {ls : List Lnk} {j i : Nat} (h : i < ls.length) : (hgI l ls j)[i]? = some [.int .i64 (if i < j then ((ls[i]?).map (hgF l)).getD 0 else 0)] := by simp [hgI, h]
theorem hgI_zero (l : List Sec) (ls : List Lnk) : List.replicate ls.length [D.int .i64 0] = hgI l ls 0 := by simp [hgI, List.map_const']
theorem hgI_set {l : List Sec} {ls : List Lnk} {j : Nat} (h : j < ls.length) : (hgI l ls j).set j [D.int .i64 (hgF l ls[j])] = hgI l ls (j + 1) := by
  unfold hgI
  rw [set_rm]
  apply List.map_congr_left
  intro v _
  by_cases e : v = j
  · subst e; simp [h]
  · have : (v < j) = (v < j + 1) := by apply propext; omega
    simp only [if_neg e, this]
theorem hgI_end (l : List Sec) (ls : List Lnk) : hgI l ls ls.length = hgA l ls := by
  apply List.ext_getElem (by simp [hgI, hgA])
  intro i h1 h2
  have h : i < ls.length := by simpa [hgA] using h2
  simp [hgI, hgA, h]
def secNm (nm : List UInt8) (s : Sec) : Bool := s.name == nm
theorem hgF_idx (l : List Sec) {k : Lnk} (hk : k.kind = 1) : hgF l k = if h : 0 ≤ idxD (secNm k.sect) l then (l[(idxD (secNm k.sect) l).toNat]?.map (·.height)).getD (-1) else -1 := by
  unfold hgF
  rw [if_pos hk]
  have hf : l.find? (fun s => s.name == k.sect) = l.find? (secNm k.sect) := rfl
  rw [hf]
  unfold idxD
  cases e : l.findIdx? (secNm k.sect) with
  | none =>
    have : l.find? (secNm k.sect) = none := by
      rw [List.find?_eq_none]
      exact fun x hx => by have := List.findIdx?_eq_none_iff.1 e x hx; simp [this]
    rw [this]; simp
  | some i =>
    obtain ⟨h1, h2, h3⟩ := List.findIdx?_eq_some_iff_getElem.1 e
    have : l.find? (secNm k.sect) = some l[i] := by
      rw [List.find?_eq_some_iff_getElem]
      exact ⟨h2, i, h1, rfl, fun j hj => by have := h3 j hj; simpa using this⟩
    rw [this]
    have e1 : ((some i).map (fun i : Nat => (i : Int))).getD (-1) = (i : Int) := rfl
    simp [h1]
variable {C : CC} (hC : Closed prog C)
include hC
theorem cvalid_c (b1 b2 b3 : Bool) (ns : List Nod) (ls : List Lnk) (l : List Sec) (hcv : ∀ l ∈ ls, l.curve.length < 2 ^ 62) : C 587 [.agg [slx b1 (ns.map nodC), slx b2 (ls.map lnkC)], slx b3 (l.map secC)] (.bool (netOk ns ls && useB l)) [] := by
  have k0 := netOk_c hC b1 b2 ns ls hcv
  refine start hC (nf := N587_checker_valid) rfl rfl ?_
  simp [N587_checker_valid]
  refine callW_of k0 (.inl rfl) ?_
  cases hv : netOk ns ls
  · simp
  simp
  refine brB_of (fun h => ?_) (fun h => ?_) <;> simp at h
  · simp [useB]; omega
  simp
  refine loop_of Nat (fun i => [(5, .mrf 10256), (10256, .mp 0 1 (namesK (l.take i)) (List.replicate i (.bool true))), (17, slx b3 (l.map secC)), (18, .int .i64 l.length), (19, .int .i64 i)])
    (fun i => i ≤ l.length ∧ (∀ x ∈ l.take i, secUse x = true) ∧ ((l.map (·.name)).take i).Nodup) (fun i => l.length - i) 0 (by simp) (by simp [namesK]) ?_
  rintro i ⟨hi, hv, hn⟩
  simp
  refine brB_of (fun h3 => ?_) (fun h3 => ?_) <;> simp at h3
  · have ht : l.take (i + 1) = l.take i ++ [l[i]] := List.take_succ_eq_append_getElem h3
    have hg := mpGet_set ((l.take i).map (·.name)).reverse i (by simp; omega) l[i].name
    rw [show ((l.take i).map (·.name)).reverse.map D.str = namesK (l.take i) from rfl] at hg
    have hk : D.str l[i].name :: namesK (l.take i) = namesK (l.take (i + 1)) := by
      rw [namesK, namesK, ht]
      simp only [List.map_append, List.map_cons, List.map_nil, List.reverse_append, List.reverse_cons, List.reverse_nil, List.nil_append, List.cons_append]
    have hlen : (namesK (l.take i)).length < maxLen := by
      have : (namesK (l.take i)).length ≤ 40 := by simp [namesK]; omega
      unfold maxLen; omega
    have hw : IntKind.wrap .i64 ((i : Int) + 1) = ((i + 1 : Nat) : Int) := wrap_i64 (by omega) (by omega)
    have bad1 : secUse l[i] = false → useB l = false := fun e => by
      simp only [useB, Bool.and_eq_false_iff, List.all_eq_false]
      exact .inl (.inr ⟨l[i], List.getElem_mem h3, by simp [e]⟩)
    have h5 : (l.map (·.name)).take (i + 1) = (l.map (·.name)).take i ++ [l[i].name] := by
      rw [List.take_succ_eq_append_getElem (by simpa using h3)]; simp
    have bad2 : l[i].name ∈ (l.map (·.name)).take i → useB l = false := fun e => by
      simp only [useB, Bool.and_eq_false_iff, decide_eq_false_iff_not]
      right
      intro hnd
      have h6 := (List.take_sublist (i + 1) _).nodup hnd
      rw [h5, List.nodup_append] at h6
      exact h6.2.2 _ e _ (by simp) rfl
    simp [h3, secC]
    refine callW_of (IsName_c hC l[i].name) (.inl rfl) ?_
    cases hvi : isName l[i].name
    · have := bad1 (by simp [secUse, hvi])
      simp [this]
    · have hnm : l[i].name.length ≤ maxLen := by
        simp only [isName, Bool.and_eq_true, decide_eq_true_eq] at hvi
        unfold maxLen; omega
      simp [hg, hnm]
      refine brB_of (fun h4 => ?_) (fun h4 => ?_)
      · have := bad2 (by simpa using h4)
        simp [h4, this]
      · have h4b : l[i].name ∉ (l.map (·.name)).take i := by simpa using h4
        simp [h4]
        by_cases h6 : l[i].height < 1
        · have := bad1 (by simp [secUse]; omega)
          simp [h6, this]
        by_cases h7 : 32768 < l[i].height
        · have := bad1 (by simp [secUse]; omega)
          simp [h6, h7, this]
        simp [h6, h7, hlen, hnm, hw]
        refine ⟨i + 1, ⟨by omega, ?_, ?_⟩, by omega, ?_⟩
        · intro x hx
          rw [ht] at hx
          rcases List.mem_append.1 hx with hx | hx
          · exact hv x hx
          · simp at hx; subst hx; simp [secUse, hvi]; omega
        · rw [h5, List.nodup_append]
          refine ⟨hn, by simp, fun a ha b hb => ?_⟩
          simp at hb
          subst hb
          rintro rfl
          exact h4b ha
        · rw [List.replicate_succ]
          exact ⟨⟨hk, rfl⟩, by omega⟩
  · have hil : i = l.length := by omega
    subst hil
    rw [List.take_of_length_le (by simp)] at hn
    simp at hv
    simp [useB, hn]
    exact ⟨by omega, hv⟩
theorem hgIs_c (s : Sec) (k : Lnk) : C 647 [.agg (secC s), .ptr (lnkC k)] (.bool (secNm k.sect s)) [] := by
  refine start hC (nf := N647_checker_heights_1) rfl rfl ?_
  simp [N647_checker_heights_1, secC, lnkC, secNm]
  rw [Bool.eq_iff_iff]; simp
theorem heights_c (b1 b2 b3 : Bool) (ns : List Nod) (ls : List Lnk) (l : List Sec) (hls : ls.length ≤ 400) (hl : l.length ≤ 40) : C 629 [.agg [slx b1 (ns.map nodC), slx b2 (ls.map lnkC)], slx b3 (l.map secC)] (.sl (hgA l ls)) [] := by
  refine start hC (nf := N629_checker_heights) rfl rfl ?_
  simp [N629_checker_heights]
  rw [hgI_zero l]
  refine ⟨by omega, ?_⟩
  refine loop_of Nat (fun i => [(1, slx b3 (l.map secC)), (5, .ref (.r 10080) 0 ls.length), (10080, .blk 1 (hgI l ls i)), (14, slx b2 (ls.map lnkC)), (15, .int .i64 ls.length), (16, .int .i64 i)]) (fun i => i ≤ ls.length) (fun i => ls.length - i) 0 (by simp) (by simp) ?_
  intro i hi
  simp
  refine brB_of (fun h => ?_) (fun h => ?_) <;> simp at h
  · have hw : IntKind.wrap .i64 ((i : Int) + 1) = ((i + 1 : Nat) : Int) := wrap_i64 (by omega) (by omega)
    have hset := hgI_set (l := l) h
    have hg1 := hgI_get (l := l) (j := i) h
    rw [if_neg (Nat.lt_irrefl i)] at hg1
    have hm1 := fun x => show (hgI l ls i).set i [D.int .i64 x] = (hgI l ls i).set i [D.int .i64 x] from rfl
    have hg1E : (hgI l ls i)[i]'(by rw [hgI_len]; exact h) = [D.int .i64 0] := (List.getElem?_eq_some_iff.1 hg1).2
    have k1 := idxSec_c hC (b := b3) (xs := l) (g := 647) (cs := [.ptr (lnkC ls[i])]) (secNm ls[i].sect) (by omega) (fun x _ => hgIs_c hC x ls[i])
    have hx := hgF_idx l (k := ls[i])
    simp [h, lnkC, hgI_len, hg1, hg1E]
    refine brB_of (fun h2 => ?_) (fun h2 => ?_) <;> simp at h2
    · have hf : hgF l ls[i] = -1 := by unfold hgF; rw [if_neg h2]
      rw [hf] at hset
      simp [h2, hw, hset]
      exact ⟨i + 1, by omega, by omega, rfl, by omega⟩
    · have hf := hx h2
      simp [h2, lnkC] at k1 ⊢
      refine callW_of k1 (.inl rfl) ?_
      simp
      refine brB_of (fun h3 => ?_) (fun h3 => ?_) <;> simp at h3
      · obtain ⟨hi1, _⟩ := idxD_here h3
        have hf' : hgF l ls[i] = l[(idxD (secNm ls[i].sect) l).toNat].height := by rw [hf, dif_pos h3, List.getElem?_eq_getElem hi1]; rfl
        rw [hf'] at hset
        have hs1 : ((hgI l ls i).set i [D.int .i64 (-1)])[i]? = some [D.int .i64 (-1)] := List.getElem?_set_self (by rw [hgI_len]; exact h)
        simp [h3, hi1, secC, hs1, h, hw, hset, hgI_len]
        exact ⟨i + 1, by omega, by omega, rfl, by omega⟩
      · have hf' : hgF l ls[i] = -1 := by rw [hf, dif_neg (by omega)]
        rw [hf'] at hset
        simp [h3, hw, hset]
        exact ⟨i + 1, by omega, by omega, rfl, by omega⟩
  · have ei : i = ls.length := by omega
    subst ei
    simp [h, hgI_len, hgI_end, hgA_len]
    rw [List.take_of_length_le (by simp [hgA_len])]
    unfold hgA
    rw [List.map_map]
    apply List.map_congr_left
    intro v _
    simp [cellV]
end Go.Gv

set_option linter.unusedSimpArgs false
namespace Go.Gv
/-- Lists, one after another. -/
def flatF {α : Type} (f : Nat → List α) (j : Nat) : List α := (List.range j).flatMap f
theorem flatF_zero {α : Type} (f : Nat → List α) : flatF f 0 = [] := rfl
theorem flatF_succ {α : Type} (f : Nat → List α) (j : Nat) : flatF f (j + 1) = flatF f j ++ f j := by simp [flatF, List.range_succ]
theorem flatF_len {α : Type} {f : Nat → List α} {k : Nat} (h : ∀ i, (f i).length ≤ k) (j : Nat) : (flatF f j).length ≤ k * j := by
  induction j with
  | zero => simp [flatF]
  | succ j ih =>
    rw [flatF_succ, List.length_append, Nat.mul_succ]
    have := h j
    omega
theorem mem_flatF {α : Type} {f : Nat → List α} {j : Nat} {x : α} : x ∈ flatF f j ↔ ∃ i, i < j ∧ x ∈ f i := by simp [flatF]
def one {α : Type} (b : Bool) (x : α) : List α := if b = true then [x] else []
theorem one_len {α : Type} (b : Bool) (x : α) : (one b x).length ≤ 1 := by cases b <;> simp [one]
theorem mem_one {α : Type} {b : Bool} {x y : α} : y ∈ one b x ↔ b = true ∧ y = x := by cases b <;> simp [one]
/-- An edge meets a node. -/
def metB (es : List Edg) (j v : Nat) : Bool := (es.take j).any fun e => decide (e.1 = v) || decide (e.2 = v)
theorem metB_zero (es : List Edg) : metB es 0 = fun _ => false := by funext v; simp [metB]
theorem metB_succ {es : List Edg} {j : Nat} (h : j < es.length) (v : Nat) : metB es (j + 1) v = (metB es j v || (decide (es[j].1 = v) || decide (es[j].2 = v))) := by
  unfold metB
  rw [List.take_succ_eq_append_getElem h, List.any_append]
  simp
theorem metB_set {es : List Edg} {j n : Nat} (h : j < es.length) : ((boolA n (metB es j)).set es[j].1 [D.bool true]).set es[j].2 [D.bool true] = boolA n (metB es (j + 1)) := by
  rw [boolA_set, boolA_set]
  apply boolA_congr
  intro v _
  rw [metB_succ h]
  by_cases e1 : v = es[j].2
  · subst e1; simp
  · have e1' : ¬ es[j].2 = v := fun e => e1 e.symm
    by_cases e2 : v = es[j].1
    · subst e2; simp [e1]
    · have e2' : ¬ es[j].1 = v := fun e => e2 e.symm
      simp [e1, e2, e1', e2']
/-- The findings on a node, and on a link. -/
noncomputable def stF (ns : List Nod) (es : List Edg) (i : Nat) : List Fnd := one (wyB es i i) (1, nodNm ns i) ++ one (lostB ns es i) (3, nodNm ns i) ++ one (!metB es es.length i) (8, nodNm ns i)
def lnkNm (ls : List Lnk) (k : Nat) : List UInt8 := (ls[k]?.map (·.name)).getD []
theorem lnkNm_get {ls : List Lnk} {k : Nat} (h : k < ls.length) : lnkNm ls k = ls[k].name := by simp [lnkNm, h]
def bkF (ls : List Lnk) (i : Nat) : List Fnd := one ((ls[i]?.map backB).getD false) (2, lnkNm ls i)
theorem stF_len (ns : List Nod) (es : List Edg) (i : Nat) : (stF ns es i).length ≤ 3 := by
  unfold stF
  have := one_len (wyB es i i) ((1, nodNm ns i) : Fnd)
  have := one_len (lostB ns es i) ((3, nodNm ns i) : Fnd)
  have := one_len (!metB es es.length i) ((8, nodNm ns i) : Fnd)
  simp only [List.length_append]; omega
theorem bkF_len (ls : List Lnk) (i : Nat) : (bkF ls i).length ≤ 1 := one_len _ _
noncomputable def strF (ns : List Nod) (ls : List Lnk) : List Fnd := flatF (stF ns (edgN ns ls)) ns.length ++ flatF (bkF ls) ls.length
variable {C : CC} (hC : Closed prog C)
include hC
set_option maxHeartbeats 4000000 in
theorem structure_c (hS : SlC C) (b1 b2 : Bool) (ns : List Nod) (ls : List Lnk) (hv : netOk ns ls = true) (hcv : ∀ l ∈ ls, l.curve.length < 2 ^ 62) (L : List Fnd) (hL : L.length < 2 ^ 30) : C 588 [.blk 1 [[.own 2 (fndR L)]], .agg [slx b1 (ns.map nodC), slx b2 (ls.map lnkC)]] (.tup []) [.blk 1 [[.own 2 (fndR (L ++ strF ns ls))]]] := by
  have hn := (netOk_len hv).1
  have hl := (netOk_len hv).2
  have hg := edgN_in hv
  have he : (edgN ns ls).length ≤ 400 := by rw [edgN_len]; omega
  have k1 := cWays_c hC hS b1 b2 ns ls hv hcv
  have k2 := ends_c hC b1 b2 ns ls hv hcv
  have k3 := fun i hi => isLost_c hC b1 b2 ns ls (edgN ns ls) i hn hi
  have k4 := add_c hC
  have k5 := back_c hC
  unfold strF
  generalize edgN ns ls = es at *
  obtain ⟨X, hX, hXg⟩ : ∃ X, wayD ns.length es = .sl X ∧ ∀ i, i < ns.length → X[i]? = some [D.sl (boolA ns.length (wyB es i))] := ⟨_, rfl, fun i hi => by simp [hi]⟩
  rw [hX] at k1
  simp only [hX] at k3
  clear hX
  have hrep : List.replicate ns.length [D.bool false] = boolA ns.length (metB es 0) := by rw [metB_zero]; simp [boolA, rep_map]
  refine startL hC (nf := N588_checker_notes_structure) rfl rfl ?_
  simp [N588_checker_notes_structure]
  refine callW_of k1 (.inr rfl) ?_
  simp
  refine ⟨by omega, ?_⟩
  refine callW_of k2 (.inr rfl) ?_
  simp
  refine loop_of Nat (fun j => [(0, .adr (.r 10015) 0 0), (10015, .blk 1 [[.own 2 (fndR L)]]), (3, .ptr [slx b1 (ns.map nodC), slx b2 (ls.map lnkC)]), (4, .sl X), (5, .ref (.r 10080) 0 ns.length), (10080, .blk 1 (boolA ns.length (metB es j))), (19, .sl (es.map edK)), (20, .int .i64 es.length), (21, .int .i64 j)]) (fun j => j ≤ es.length) (fun j => es.length - j) 0 (by simp) (by simp [hrep]) ?_
  · intro j hj
    simp
    refine brB_of (fun h => ?_) (fun h => ?_) <;> simp at h
    · have hw : IntKind.wrap .i64 ((j : Int) + 1) = ((j + 1 : Nat) : Int) := wrap_i64 (by omega) (by omega)
      have hset := metB_set (n := ns.length) h
      have hin := hg es[j] (List.getElem_mem _)
      have hw : IntKind.wrap .i64 ((j : Int) + 1) = ((j + 1 : Nat) : Int) := wrap_i64 (by omega) (by omega)
      obtain ⟨i, e, hie⟩ : ∃ i e, es[j] = (i, e) := ⟨_, _, rfl⟩
      rw [hie] at hset hin
      simp at hset hin
      have hA : (boolA ns.length (metB es j))[i]'(by rw [boolA_len]; exact hin.1) = [D.bool (metB es j i)] := (List.getElem?_eq_some_iff.1 (boolA_get _ hin.1)).2
      have hB : ((boolA ns.length (metB es j)).set i [D.bool true])[e]'(by rw [List.length_set, boolA_len]; exact hin.2) = [D.bool (if e = i then true else metB es j e)] := by
        simp only [boolA_set]
        exact (List.getElem?_eq_some_iff.1 (boolA_get _ hin.2)).2
      simp [h, edK, knD, hie, hin.1, hin.2, boolA_len, hA, hB, hset, hw]
      exact ⟨indW_of (by decide +kernel), j + 1, by omega, by omega, rfl, by omega⟩
    · have ej : j = es.length := by omega
      subst ej
      simp [h]
      have hst : ∀ i, (L ++ flatF (stF ns es) i).length ≤ 2 ^ 30 + 3 * i := fun i => by
        have := flatF_len (stF_len ns es) i
        rw [List.length_append]; omega
      refine loop_of Nat (fun j => [(0, .adr (.r 10015) 0 0), (10015, .blk 1 [[.own 2 (fndR (L ++ flatF (stF ns es) j))]]), (3, .ptr [slx b1 (ns.map nodC), slx b2 (ls.map lnkC)]), (4, .sl X), (5, .ref (.r 10080) 0 ns.length), (10080, .blk 1 (boolA ns.length (metB es es.length))), (35, slx b1 (ns.map nodC)), (36, .int .i64 ns.length), (37, .int .i64 j)]) (fun j => j ≤ ns.length) (fun j => ns.length - j) 0 (by simp) (by simp [flatF_zero]) ?_
      intro j hj
      simp
      have hl0 := hst j
      have hfs := flatF_succ (stF ns es) j
      generalize hW : flatF (stF ns es) j = W at *
      refine brB_of (fun h => ?_) (fun h => ?_) <;> simp at h
      · have hw : IntKind.wrap .i64 ((j : Int) + 1) = ((j + 1 : Nat) : Int) := wrap_i64 (by omega) (by omega)
        have hme := boolA_get (metB es es.length) h
        have k3' := k3 j h
        have hsj : stF ns es j = one (wyB es j j) (1, nodNm ns j) ++ one (lostB ns es j) (3, nodNm ns j) ++ one (!metB es es.length j) (8, nodNm ns j) := rfl
        rw [nodNm_get h] at hsj
        simp [h, nodC, idxW_some (hXg j h), idxW_some (boolA_get (wyB es j) h)]
        refine brB_of (fun q1 => ?_) (fun q1 => ?_)
        · simp [q1]
          refine lndW_of (k4 _ 1 _ (by simp only [List.length_append, List.length_cons, List.length_nil] at *; omega)) (by simp) ?_
          simp
          refine callW_of (by simpa [nodC] using k3') (.inl rfl) ?_
          simp
          refine brB_of (fun q2 => ?_) (fun q2 => ?_)
          · simp [q2]
            refine lndW_of (k4 _ 3 _ (by simp only [List.length_append, List.length_cons, List.length_nil] at *; omega)) (by simp) ?_
            simp
            simp [rowW_some hme, hw, h]
            refine brB_of (fun q3 => ?_) (fun q3 => ?_)
            · simp [q3]
              refine lndW_of (k4 _ 8 _ (by simp only [List.length_append, List.length_cons, List.length_nil] at *; omega)) (by simp) ?_
              simp [hw]
              refine ⟨j + 1, by omega, by omega, ?_, by omega⟩; rw [hfs, hsj]; simp [one, q1, q2, q3]
            · simp [q3, hw]
              refine ⟨j + 1, by omega, by omega, ?_, by omega⟩; rw [hfs, hsj]; simp [one, q1, q2, q3]
          · simp [q2]
            simp [rowW_some hme, hw, h]
            refine brB_of (fun q3 => ?_) (fun q3 => ?_)
            · simp [q3]
              refine lndW_of (k4 _ 8 _ (by simp only [List.length_append, List.length_cons, List.length_nil] at *; omega)) (by simp) ?_
              simp [hw]
              refine ⟨j + 1, by omega, by omega, ?_, by omega⟩; rw [hfs, hsj]; simp [one, q1, q2, q3]
            · simp [q3, hw]
              refine ⟨j + 1, by omega, by omega, ?_, by omega⟩; rw [hfs, hsj]; simp [one, q1, q2, q3]
        · simp [q1]
          refine callW_of (by simpa [nodC] using k3') (.inl rfl) ?_
          simp
          refine brB_of (fun q2 => ?_) (fun q2 => ?_)
          · simp [q2]
            refine lndW_of (k4 _ 3 _ (by simp only [List.length_append, List.length_cons, List.length_nil] at *; omega)) (by simp) ?_
            simp
            simp [rowW_some hme, hw, h]
            refine brB_of (fun q3 => ?_) (fun q3 => ?_)
            · simp [q3]
              refine lndW_of (k4 _ 8 _ (by simp only [List.length_append, List.length_cons, List.length_nil] at *; omega)) (by simp) ?_
              simp [hw]
              refine ⟨j + 1, by omega, by omega, ?_, by omega⟩; rw [hfs, hsj]; simp [one, q1, q2, q3]
            · simp [q3, hw]
              refine ⟨j + 1, by omega, by omega, ?_, by omega⟩; rw [hfs, hsj]; simp [one, q1, q2, q3]
          · simp [q2]
            simp [rowW_some hme, hw, h]
            refine brB_of (fun q3 => ?_) (fun q3 => ?_)
            · simp [q3]
              refine lndW_of (k4 _ 8 _ (by simp only [List.length_append, List.length_cons, List.length_nil] at *; omega)) (by simp) ?_
              simp [hw]
              refine ⟨j + 1, by omega, by omega, ?_, by omega⟩; rw [hfs, hsj]; simp [one, q1, q2, q3]
            · simp [q3, hw]
              refine ⟨j + 1, by omega, by omega, ?_, by omega⟩; rw [hfs, hsj]; simp [one, q1, q2, q3]
      · have ej : j = ns.length := by omega
        subst ej
        simp [h]
        have hbt : ∀ i, (L ++ W ++ flatF (bkF ls) i).length ≤ 2 ^ 31 + i := fun i => by
          have := flatF_len (bkF_len ls) i
          simp only [List.length_append] at *; omega
        refine loop_of Nat (fun j => [(0, .adr (.r 10015) 0 0), (10015, .blk 1 [[.own 2 (fndR (L ++ W ++ flatF (bkF ls) j))]]), (72, slx b2 (ls.map lnkC)), (73, .int .i64 ls.length), (74, .int .i64 j)]) (fun j => j ≤ ls.length) (fun j => ls.length - j) 0 (by simp) (by simp [flatF_zero]) ?_
        intro j hj
        simp
        have hl0 := hbt j
        have hfs := flatF_succ (bkF ls) j
        generalize hW2 : flatF (bkF ls) j = W2 at *
        refine brB_of (fun h => ?_) (fun h => ?_) <;> simp at h
        · have hw : IntKind.wrap .i64 ((j : Int) + 1) = ((j + 1 : Nat) : Int) := wrap_i64 (by omega) (by omega)
          have hsj : bkF ls j = one (backB ls[j]) (2, ls[j].name) := by unfold bkF; rw [lnkNm_get h]; simp [h]
          simp [h, lnkC]
          refine callW_of (by simpa [lnkC] using k5 ls[j]) (.inr rfl) ?_
          simp
          refine brB_of (fun q1 => ?_) (fun q1 => ?_)
          · simp [q1]
            refine lndW_of (k4 _ 2 _ (by simp only [List.length_append] at *; omega)) (by simp) ?_
            simp [hw]
            refine ⟨j + 1, by omega, by omega, ?_, by omega⟩
            rw [hfs, hsj]; simp [one, q1]
          · simp [q1, hw]
            refine ⟨j + 1, by omega, by omega, ?_, by omega⟩
            rw [hfs, hsj]; simp [one, q1]
        · have ej : j = ls.length := by omega
          subst ej
          simp [h, hW, hW2]
end Go.Gv

set_option linter.unusedSimpArgs false
set_option maxRecDepth 4000
namespace Go.Gv
def edG (es : List Edg) (i : Nat) : Edg := es[i]?.getD (0, 0)
def lnG (ls : List Lnk) (i : Nat) : Lnk := ls[i]?.getD ⟨[], [], [], 0, 0, 0, 0, [], 0, 0, true, []⟩
def nodG (ns : List Nod) (i : Nat) : Nod := ns[i]?.getD ⟨[], 0, 0, 0, 0, 0, true, [], false, 0⟩
theorem edG_get {es : List Edg} {i : Nat} (h : i < es.length) : edG es i = es[i] := by simp [edG, h]
theorem lnG_get {ls : List Lnk} {i : Nat} (h : i < ls.length) : lnG ls i = ls[i] := by simp [lnG, h]
theorem nodG_get {ns : List Nod} {i : Nat} (h : i < ns.length) : nodG ns i = ns[i] := by simp [nodG, h]
def lvLo (k : Lnk) (a b : Nod) : Bool := if k.kind = 4 then decide (k.down < a.invert) else decide (k.up < a.invert) || (decide (k.kind = 1) && decide (k.down < b.invert))
def lvHi (k : Lnk) (a b : Nod) (h : Int) (known : Bool) : Bool :=
  if k.kind = 1 then known && (decide (a.ground < IntKind.wrap .i64 (k.up + h)) || decide (b.ground < IntKind.wrap .i64 (k.down + h)))
  else if k.kind = 3 then decide (a.ground < IntKind.wrap .i64 (k.up + k.height)) else decide (a.ground < k.up)
def narF (es : List Edg) (l : List Sec) (ls : List Lnk) (i j : Nat) : List Fnd := one (decide ((edG es j).2 = (edG es i).1) && decide (hgF l (lnG ls i) < hgF l (lnG ls j))) (7, lnkNm ls i)
def levF (ns : List Nod) (es : List Edg) (l : List Sec) (ls : List Lnk) (i : Nat) : List Fnd :=
  one (lvLo (lnG ls i) (nodG ns (edG es i).1) (nodG ns (edG es i).2)) (4, lnkNm ls i) ++ one (lvHi (lnG ls i) (nodG ns (edG es i).1) (nodG ns (edG es i).2) (hgF l (lnG ls i)) (decide (0 ≤ hgF l (lnG ls i)))) (5, lnkNm ls i) ++
  one (decide ((lnG ls i).kind = 1) && decide (hgF l (lnG ls i) < 0)) (6, lnkNm ls i) ++ (if hgF l (lnG ls i) < 0 then [] else flatF (narF es l ls i) ls.length)
theorem narF_len (es : List Edg) (l : List Sec) (ls : List Lnk) (i j : Nat) : (narF es l ls i j).length ≤ 1 := one_len _ _
theorem levF_len (ns : List Nod) (es : List Edg) (l : List Sec) (ls : List Lnk) (i : Nat) : (levF ns es l ls i).length ≤ 3 + ls.length := by
  unfold levF
  have := one_len (lvLo (lnG ls i) (nodG ns (edG es i).1) (nodG ns (edG es i).2)) ((4, lnkNm ls i) : Fnd)
  have := one_len (lvHi (lnG ls i) (nodG ns (edG es i).1) (nodG ns (edG es i).2) (hgF l (lnG ls i)) (decide (0 ≤ hgF l (lnG ls i)))) ((5, lnkNm ls i) : Fnd)
  have := one_len (decide ((lnG ls i).kind = 1) && decide (hgF l (lnG ls i) < 0)) ((6, lnkNm ls i) : Fnd)
  have h4 : (if hgF l (lnG ls i) < 0 then [] else flatF (narF es l ls i) ls.length).length ≤ ls.length := by
    split
    · simp
    · have := flatF_len (narF_len es l ls i) ls.length; omega
  simp only [List.length_append]; omega
noncomputable def lvlF (ns : List Nod) (ls : List Lnk) (l : List Sec) : List Fnd := flatF (levF ns (edgN ns ls) l ls) ls.length
/-- What stands behind the switch. -/
def lvTail : NCode := match N589_checker_notes_levels.body with
  | .seq _ (.seq _ (.seq _ (.seq _ (.block _ (.loop (.seq _ (.seq _ (.seq (.block _ (.seq _ (.seq _ (.seq _ (.seq _ t))))) _)))))))) => t
  | _ => .skip
/-- What stands behind the findings 4, 5, 6. -/
def lvTail7 : NCode := match lvTail with
  | .seq _ (.seq _ (.seq _ (.seq _ t))) => t
  | _ => .skip
variable {C : CC} (hC : Closed prog C)
include hC
set_option maxHeartbeats 4000000 in
theorem levels_c (b1 b2 b3 : Bool) (ns : List Nod) (ls : List Lnk) (l : List Sec) (hv : netOk ns ls = true) (hcv : ∀ l ∈ ls, l.curve.length < 2 ^ 62) (hll : l.length ≤ 40) (L : List Fnd) (hL : L.length < 2 ^ 30) : C 589 [.blk 1 [[.own 2 (fndR L)]], .agg [slx b1 (ns.map nodC), slx b2 (ls.map lnkC)], slx b3 (l.map secC)] (.tup []) [.blk 1 [[.own 2 (fndR (L ++ lvlF ns ls l))]]] := by
  have hn := (netOk_len hv).1
  have hl := (netOk_len hv).2
  have hg := edgN_in hv
  have hel := edgN_len ns ls
  have k1 := heights_c hC b1 b2 b3 ns ls l hl hll
  have k2 := ends_c hC b1 b2 ns ls hv hcv
  have k4 := add_c hC
  have hknd : ∀ (i : Nat) (h : i < ls.length), ls[i].kind = 1 ∨ ls[i].kind = 2 ∨ ls[i].kind = 3 ∨ ls[i].kind = 4 := fun i h => by
    have h0 := (netOk_lnk hv h).1
    simp only [linkOk, Bool.and_eq_true] at h0
    have h1 := h0.2
    unfold kindOk at h1
    by_cases e1 : ls[i].kind = 1
    · exact .inl e1
    by_cases e2 : ls[i].kind = 2
    · exact .inr (.inl e2)
    by_cases e3 : ls[i].kind = 3
    · exact .inr (.inr (.inl e3))
    by_cases e4 : ls[i].kind = 4
    · exact .inr (.inr (.inr e4))
    simp [e1, e2, e3, e4] at h1
  unfold lvlF
  generalize edgN ns ls = es at *
  obtain ⟨T, hT⟩ : ∃ T, T = lvTail := ⟨_, rfl⟩
  obtain ⟨T7, hT7⟩ : ∃ T, T = lvTail7 := ⟨_, rfl⟩
  simp [lvTail7, lvTail, N589_checker_notes_levels] at hT7
  simp [lvTail, N589_checker_notes_levels] at hT
  have tail7 : ∀ (j : Nat) (h : j < ls.length) (Q : NExit → Env → Prop) (kd : Int) (M1 M' : List Fnd), M1.length ≤ 2 ^ 31 + 2 →
      M' = M1 ++ flatF (narF es l ls j) ls.length →
      (endW Q ⟨⟩ .nrm [(0, .adr (.r 10015) 0 0), (4, .ptr [slx b1 (ns.map nodC), slx b2 (ls.map lnkC)]), (6, .sl (hgA l ls)), (7, .sl (es.map edK)), (8, .int .i64 j), (9, .adr (.r 10144) 0 0), (21, slx b2 (ls.map lnkC)), (22, .int .i64 ls.length), (23, .int .i64 j), (161, .int .i64 ls.length), (162, .int .i64 ls.length), (163, .bool false), (10015, .blk 1 [[.own 2 (fndR M')]]), (10144, .blk 11 [[.str ls[j].name, .str ls[j].src, .str ls[j].dst, .int .i64 kd, .int .i64 ls[j].len, .int .i64 ls[j].up, .int .i64 ls[j].down, .str ls[j].sect, .int .i64 ls[j].width, .int .i64 ls[j].height, slx ls[j].curveN (ls[j].curve.map knD)]])]) →
      wN C T7 Q ⟨⟩ [(0, .adr (.r 10015) 0 0), (4, .ptr [slx b1 (ns.map nodC), slx b2 (ls.map lnkC)]), (6, .sl (hgA l ls)), (7, .sl (es.map edK)), (8, .int .i64 j), (9, .adr (.r 10144) 0 0), (21, slx b2 (ls.map lnkC)), (22, .int .i64 ls.length), (23, .int .i64 j), (158, .bool false), (10015, .blk 1 [[.own 2 (fndR M1)]]), (10144, .blk 11 [[.str ls[j].name, .str ls[j].src, .str ls[j].dst, .int .i64 kd, .int .i64 ls[j].len, .int .i64 ls[j].up, .int .i64 ls[j].down, .str ls[j].sect, .int .i64 ls[j].width, .int .i64 ls[j].height, slx ls[j].curveN (ls[j].curve.map knD)]])] := by
    intro j h Q kd M1 M' hM1l hM' hQ
    have hgj := hgA_get l h
    have hje : j < es.length := by omega
    rw [hT7]
    simp
    refine loop_of Nat (fun k => [(0, .adr (.r 10015) 0 0), (4, .ptr [slx b1 (ns.map nodC), slx b2 (ls.map lnkC)]), (6, .sl (hgA l ls)), (7, .sl (es.map edK)), (8, .int .i64 j), (9, .adr (.r 10144) 0 0), (21, slx b2 (ls.map lnkC)), (22, .int .i64 ls.length), (23, .int .i64 j), (161, .int .i64 ls.length), (162, .int .i64 k), (10015, .blk 1 [[.own 2 (fndR (M1 ++ flatF (narF es l ls j) k))]]), (10144, .blk 11 [[.str ls[j].name, .str ls[j].src, .str ls[j].dst, .int .i64 kd, .int .i64 ls[j].len, .int .i64 ls[j].up, .int .i64 ls[j].down, .str ls[j].sect, .int .i64 ls[j].width, .int .i64 ls[j].height, slx ls[j].curveN (ls[j].curve.map knD)]])]) (fun k => k ≤ ls.length) (fun k => ls.length - k) 0 (by simp) (by simp [flatF_zero]) ?_
    intro k hk
    simp
    refine brB_of (fun h8 => ?_) (fun h8 => ?_) <;> simp at h8
    · have hke : k < es.length := by omega
      have hw8 : IntKind.wrap .i64 ((k : Int) + 1) = ((k + 1 : Nat) : Int) := wrap_i64 (by omega) (by omega)
      have hfk := flatF_succ (narF es l ls j) k
      have hsk : narF es l ls j k = one (decide (es[k].2 = es[j].1) && decide (hgF l ls[j] < hgF l ls[k])) (7, ls[j].name) := by unfold narF; rw [lnkNm_get h, edG_get hje, edG_get hke, lnG_get h, lnG_get h8]
      have hlk := flatF_len (narF_len es l ls j) k
      rw [hsk] at hfk
      have hgk := hgA_get l h8
      simp [h8, hke, hje, edK, knD, hgA_len, h]
      by_cases c1 : es[k].2 = es[j].1
      · simp [c1, h8, h, hke, hje, edK, knD, hgA_len, idxW_some hgj, idxW_some hgk]
        refine ⟨indW_of (by decide +kernel), ?_⟩
        refine brB_of (fun c2 => ?_) (fun c2 => ?_)
        · rw [c2]
          simp at c2
          simp [c2]
          refine lndW_of (k4 _ 7 _ (by (try simp only [List.length_append, List.length_cons, List.length_nil]); omega)) (by simp) ?_
          simp [hw8]
          exact ⟨k + 1, by omega, by omega, by omega, by rw [hfk]; simp [one, c1, c2]⟩
        · rw [c2]
          simp at c2
          simp [c2, hw8]
          exact ⟨k + 1, by omega, by omega, by omega, by rw [hfk]; simp [one, c1, Int.not_lt.2 c2]⟩
      · have c1' : ¬ (es[k].2 : Int) = es[j].1 := by omega
        simp [c1, c1', hw8]
        exact ⟨indW_of (by decide +kernel), k + 1, by omega, by omega, by omega, by rw [hfk]; simp [one, c1]⟩
    · have ek : k = ls.length := by omega
      subst ek
      simp [h8]
      subst hM'
      simpa using hQ
  have tail : ∀ (lo hi : Bool) (j : Nat) (h : j < ls.length) (Q : NExit → Env → Prop) (kd : Int) (M M' : List Fnd), M.length ≤ 2 ^ 31 →
      M' = M ++ one lo (4, ls[j].name) ++ one hi (5, ls[j].name) ++ one (decide (kd = 1) && decide (hgF l ls[j] < 0)) (6, ls[j].name) ++ (if hgF l ls[j] < 0 then [] else flatF (narF es l ls j) ls.length) →
      (endW Q ⟨⟩ .nrm [(0, .adr (.r 10015) 0 0), (4, .ptr [slx b1 (ns.map nodC), slx b2 (ls.map lnkC)]), (6, .sl (hgA l ls)), (7, .sl (es.map edK)), (8, .int .i64 j), (9, .adr (.r 10144) 0 0), (21, slx b2 (ls.map lnkC)), (22, .int .i64 ls.length), (23, .int .i64 j), (161, .int .i64 ls.length), (162, .int .i64 ls.length), (163, .bool false), (10015, .blk 1 [[.own 2 (fndR M')]]), (10144, .blk 11 [[.str ls[j].name, .str ls[j].src, .str ls[j].dst, .int .i64 kd, .int .i64 ls[j].len, .int .i64 ls[j].up, .int .i64 ls[j].down, .str ls[j].sect, .int .i64 ls[j].width, .int .i64 ls[j].height, slx ls[j].curveN (ls[j].curve.map knD)]])]) →
      (endW Q ⟨⟩ (.ext 1) [(0, .adr (.r 10015) 0 0), (4, .ptr [slx b1 (ns.map nodC), slx b2 (ls.map lnkC)]), (6, .sl (hgA l ls)), (7, .sl (es.map edK)), (8, .int .i64 j), (9, .adr (.r 10144) 0 0), (21, slx b2 (ls.map lnkC)), (22, .int .i64 ls.length), (23, .int .i64 j), (158, .bool true), (10015, .blk 1 [[.own 2 (fndR M')]]), (10144, .blk 11 [[.str ls[j].name, .str ls[j].src, .str ls[j].dst, .int .i64 kd, .int .i64 ls[j].len, .int .i64 ls[j].up, .int .i64 ls[j].down, .str ls[j].sect, .int .i64 ls[j].width, .int .i64 ls[j].height, slx ls[j].curveN (ls[j].curve.map knD)]])]) →
      wN C T Q ⟨⟩ [(0, .adr (.r 10015) 0 0), (4, .ptr [slx b1 (ns.map nodC), slx b2 (ls.map lnkC)]), (6, .sl (hgA l ls)), (7, .sl (es.map edK)), (8, .int .i64 j), (9, .adr (.r 10144) 0 0), (12, .bool lo), (13, .bool hi), (21, slx b2 (ls.map lnkC)), (22, .int .i64 ls.length), (23, .int .i64 j), (10015, .blk 1 [[.own 2 (fndR M)]]), (10144, .blk 11 [[.str ls[j].name, .str ls[j].src, .str ls[j].dst, .int .i64 kd, .int .i64 ls[j].len, .int .i64 ls[j].up, .int .i64 ls[j].down, .str ls[j].sect, .int .i64 ls[j].width, .int .i64 ls[j].height, slx ls[j].curveN (ls[j].curve.map knD)]])] := by
    intro lo hi j h Q kd M M' hM hM' hQ hX
    have hgj := hgA_get l h
    have hje : j < es.length := by omega
    obtain ⟨M1, hM1⟩ : ∃ M1, M1 = M ++ one lo (4, ls[j].name) ++ one hi (5, ls[j].name) := ⟨_, rfl⟩
    have hM1l : M1.length ≤ 2 ^ 31 + 2 := by
      rw [hM1]
      have := one_len lo ((4, ls[j].name) : Fnd)
      have := one_len hi ((5, ls[j].name) : Fnd)
      simp only [List.length_append]; omega
    rw [hT, ← hT7]
    simp
    refine brB_of (fun q1 => ?_) (fun q1 => ?_)
    · simp [q1]
      refine lndW_of (k4 _ 4 _ (by (try simp only [List.length_append, List.length_cons, List.length_nil]); omega)) (by simp) ?_
      simp
      refine brB_of (fun q2 => ?_) (fun q2 => ?_)
      · simp [q2]
        refine lndW_of (k4 _ 5 _ (by (try simp only [List.length_append, List.length_cons, List.length_nil]); omega)) (by simp) ?_
        simp
        by_cases q3 : kd = 1
        · simp [q3, h, hgA_len, idxW_some hgj]
          by_cases q4 : hgF l ls[j] < 0
          · simp [q4]
            refine lndW_of (k4 _ 6 _ (by (try simp only [List.length_append, List.length_cons, List.length_nil]); omega)) (by simp) ?_
            simp [h, hgA_len, idxW_some hgj, q4]
            subst hM'
            simpa [one, q3, q4, q1, q2] using hX
          · simp [q4, h, hgA_len, idxW_some hgj]
            refine tail7 j h _ kd M1 M' hM1l (by rw [hM', hM1]; simp [one, q3, q4]) (by simpa [q3] using hQ) |> fun x => ?_
            simpa [hM1, one, q1, q2, q3, q4] using x
        · simp [q3, h, hgA_len, idxW_some hgj]
          by_cases q4 : hgF l ls[j] < 0
          · simp [q4]; subst hM'; simpa [one, q3, q4, q1, q2] using hX
          · simp [q4]
            refine tail7 j h _ kd M1 M' hM1l (by rw [hM', hM1]; simp [one, q3, q4]) (by simpa [q3] using hQ) |> fun x => ?_
            simpa [hM1, one, q1, q2, q3, q4] using x
      · simp [q2]
        by_cases q3 : kd = 1
        · simp [q3, h, hgA_len, idxW_some hgj]
          by_cases q4 : hgF l ls[j] < 0
          · simp [q4]
            refine lndW_of (k4 _ 6 _ (by (try simp only [List.length_append, List.length_cons, List.length_nil]); omega)) (by simp) ?_
            simp [h, hgA_len, idxW_some hgj, q4]
            subst hM'
            simpa [one, q3, q4, q1, q2] using hX
          · simp [q4, h, hgA_len, idxW_some hgj]
            refine tail7 j h _ kd M1 M' hM1l (by rw [hM', hM1]; simp [one, q3, q4]) (by simpa [q3] using hQ) |> fun x => ?_
            simpa [hM1, one, q1, q2, q3, q4] using x
        · simp [q3, h, hgA_len, idxW_some hgj]
          by_cases q4 : hgF l ls[j] < 0
          · simp [q4]; subst hM'; simpa [one, q3, q4, q1, q2] using hX
          · simp [q4]
            refine tail7 j h _ kd M1 M' hM1l (by rw [hM', hM1]; simp [one, q3, q4]) (by simpa [q3] using hQ) |> fun x => ?_
            simpa [hM1, one, q1, q2, q3, q4] using x
    · simp [q1]
      refine brB_of (fun q2 => ?_) (fun q2 => ?_)
      · simp [q2]
        refine lndW_of (k4 _ 5 _ (by (try simp only [List.length_append, List.length_cons, List.length_nil]); omega)) (by simp) ?_
        simp
        by_cases q3 : kd = 1
        · simp [q3, h, hgA_len, idxW_some hgj]
          by_cases q4 : hgF l ls[j] < 0
          · simp [q4]
            refine lndW_of (k4 _ 6 _ (by (try simp only [List.length_append, List.length_cons, List.length_nil]); omega)) (by simp) ?_
            simp [h, hgA_len, idxW_some hgj, q4]
            subst hM'
            simpa [one, q3, q4, q1, q2] using hX
          · simp [q4, h, hgA_len, idxW_some hgj]
            refine tail7 j h _ kd M1 M' hM1l (by rw [hM', hM1]; simp [one, q3, q4]) (by simpa [q3] using hQ) |> fun x => ?_
            simpa [hM1, one, q1, q2, q3, q4] using x
        · simp [q3, h, hgA_len, idxW_some hgj]
          by_cases q4 : hgF l ls[j] < 0
          · simp [q4]; subst hM'; simpa [one, q3, q4, q1, q2] using hX
          · simp [q4]
            refine tail7 j h _ kd M1 M' hM1l (by rw [hM', hM1]; simp [one, q3, q4]) (by simpa [q3] using hQ) |> fun x => ?_
            simpa [hM1, one, q1, q2, q3, q4] using x
      · simp [q2]
        by_cases q3 : kd = 1
        · simp [q3, h, hgA_len, idxW_some hgj]
          by_cases q4 : hgF l ls[j] < 0
          · simp [q4]
            refine lndW_of (k4 _ 6 _ (by (try simp only [List.length_append, List.length_cons, List.length_nil]); omega)) (by simp) ?_
            simp [h, hgA_len, idxW_some hgj, q4]
            subst hM'
            simpa [one, q3, q4, q1, q2] using hX
          · simp [q4, h, hgA_len, idxW_some hgj]
            refine tail7 j h _ kd M1 M' hM1l (by rw [hM', hM1]; simp [one, q3, q4]) (by simpa [q3] using hQ) |> fun x => ?_
            simpa [hM1, one, q1, q2, q3, q4] using x
        · simp [q3, h, hgA_len, idxW_some hgj]
          by_cases q4 : hgF l ls[j] < 0
          · simp [q4]; subst hM'; simpa [one, q3, q4, q1, q2] using hX
          · simp [q4]
            refine tail7 j h _ kd M1 M' hM1l (by rw [hM', hM1]; simp [one, q3, q4]) (by simpa [q3] using hQ) |> fun x => ?_
            simpa [hM1, one, q1, q2, q3, q4] using x
  refine startL hC (nf := N589_checker_notes_levels) rfl rfl ?_
  simp [N589_checker_notes_levels]
  refine callW_of k1 (.inr rfl) ?_
  simp
  refine callW_of k2 (.inr rfl) ?_
  simp
  refine loop_of Nat (fun j => [(0, .adr (.r 10015) 0 0), (10015, .blk 1 [[.own 2 (fndR (L ++ flatF (levF ns es l ls) j))]]), (4, .ptr [slx b1 (ns.map nodC), slx b2 (ls.map lnkC)]), (6, .sl (hgA l ls)), (7, .sl (es.map edK)), (21, slx b2 (ls.map lnkC)), (22, .int .i64 ls.length), (23, .int .i64 j)]) (fun j => j ≤ ls.length) (fun j => ls.length - j) 0 (by simp) (by simp [flatF_zero]) ?_
  intro j hj
  simp
  refine brB_of (fun h => ?_) (fun h => ?_) <;> simp at h
  · have hje : j < es.length := by omega
    have hin := hg es[j] (List.getElem_mem _)
    obtain ⟨a, b, hab⟩ : ∃ a b, es[j] = (a, b) := ⟨_, _, rfl⟩
    rw [hab] at hin
    simp at hin
    simp [h, hje, lnkC, hab, edK, knD, hin.1, hin.2, nodC]
    refine ⟨indW_of (by decide +kernel), ?_⟩
    rw [← hT]
    have hw : IntKind.wrap .i64 ((j : Int) + 1) = ((j + 1 : Nat) : Int) := wrap_i64 (by omega) (by omega)
    have hgj := hgA_get l h
    have hfs := flatF_succ (levF ns es l ls) j
    have hfl := flatF_len (levF_len ns es l ls) j
    have hjm : (3 + ls.length) * j ≤ 403 * 400 := Nat.mul_le_mul (by omega) (by omega)
    have hlv : levF ns es l ls j = one (lvLo ls[j] ns[a] ns[b]) (4, ls[j].name) ++ one (lvHi ls[j] ns[a] ns[b] (hgF l ls[j]) (decide (0 ≤ hgF l ls[j]))) (5, ls[j].name) ++ one (decide (ls[j].kind = 1) && decide (hgF l ls[j] < 0)) (6, ls[j].name) ++ (if hgF l ls[j] < 0 then [] else flatF (narF es l ls j) ls.length) := by
      unfold levF
      rw [lnkNm_get h, edG_get hje, lnG_get h, hab]
      simp only
      rw [nodG_get hin.1, nodG_get hin.2]
    have hM0 : (L ++ flatF (levF ns es l ls) j).length ≤ 2 ^ 31 := by rw [List.length_append]; omega
    have hk4 := hknd j h
    refine brB_of (fun c1 => ?_) (fun c1 => ?_) <;> simp at c1
    · simp [c1]
      by_cases p1 : ls[j].up < ns[a].invert
      · simp [p1, c1, h, hgA_len, idxW_some hgj]
        by_cases p2 : 0 ≤ hgF l ls[j]
        · simp [p2, h, hgA_len, idxW_some hgj]
          by_cases p3 : ns[a].ground < IntKind.wrap .i64 (ls[j].up + hgF l ls[j])
          · simp [p3, p2, h, hgA_len, idxW_some hgj]
            refine ⟨indW_of (by decide +kernel), ?_⟩
            refine tail _ _ j h _ 1 _ (L ++ flatF (levF ns es l ls) (j + 1)) hM0 (by rw [hfs, hlv]; simp [lvLo, lvHi, *]) ?_ ?_ <;> (simp [hw]; exact ⟨j + 1, by omega, by omega, rfl, by omega⟩)
          · simp [p3, p2, h, hgA_len, idxW_some hgj]
            refine ⟨indW_of (by decide +kernel), ?_⟩
            refine tail _ _ j h _ 1 _ (L ++ flatF (levF ns es l ls) (j + 1)) hM0 (by rw [hfs, hlv]; simp [lvLo, lvHi, *]) ?_ ?_ <;> (simp [hw]; exact ⟨j + 1, by omega, by omega, rfl, by omega⟩)
        · simp [p2]
          refine ⟨indW_of (by decide +kernel), ?_⟩
          refine tail _ _ j h _ 1 _ (L ++ flatF (levF ns es l ls) (j + 1)) hM0 (by rw [hfs, hlv]; simp [lvLo, lvHi, *]) ?_ ?_ <;> (simp [hw]; exact ⟨j + 1, by omega, by omega, rfl, by omega⟩)
      · simp [p1, c1, h, hgA_len, idxW_some hgj]
        by_cases p2 : 0 ≤ hgF l ls[j]
        · simp [p2, h, hgA_len, idxW_some hgj]
          by_cases p3 : ns[a].ground < IntKind.wrap .i64 (ls[j].up + hgF l ls[j])
          · simp [p3, p2, h, hgA_len, idxW_some hgj]
            refine ⟨indW_of (by decide +kernel), ?_⟩
            refine tail _ _ j h _ 1 _ (L ++ flatF (levF ns es l ls) (j + 1)) hM0 (by rw [hfs, hlv]; simp [lvLo, lvHi, *]) ?_ ?_ <;> (simp [hw]; exact ⟨j + 1, by omega, by omega, rfl, by omega⟩)
          · simp [p3, p2, h, hgA_len, idxW_some hgj]
            refine ⟨indW_of (by decide +kernel), ?_⟩
            refine tail _ _ j h _ 1 _ (L ++ flatF (levF ns es l ls) (j + 1)) hM0 (by rw [hfs, hlv]; simp [lvLo, lvHi, *]) ?_ ?_ <;> (simp [hw]; exact ⟨j + 1, by omega, by omega, rfl, by omega⟩)
        · simp [p2]
          refine ⟨indW_of (by decide +kernel), ?_⟩
          refine tail _ _ j h _ 1 _ (L ++ flatF (levF ns es l ls) (j + 1)) hM0 (by rw [hfs, hlv]; simp [lvLo, lvHi, *]) ?_ ?_ <;> (simp [hw]; exact ⟨j + 1, by omega, by omega, rfl, by omega⟩)
    · simp [c1]
      refine brB_of (fun c2 => ?_) (fun c2 => ?_) <;> simp at c2
      · simp [c1, c2]
        refine ⟨indW_of (by decide +kernel), ?_⟩
        refine tail _ _ j h _ 2 _ (L ++ flatF (levF ns es l ls) (j + 1)) hM0 (by rw [hfs, hlv]; simp [lvLo, lvHi, *]) ?_ ?_ <;> (simp [hw]; exact ⟨j + 1, by omega, by omega, rfl, by omega⟩)
      · simp [c2]
        refine brB_of (fun c3 => ?_) (fun c3 => ?_) <;> simp at c3
        · simp [c1, c2, c3]
          refine ⟨indW_of (by decide +kernel), ?_⟩
          refine tail _ _ j h _ 3 _ (L ++ flatF (levF ns es l ls) (j + 1)) hM0 (by rw [hfs, hlv]; simp [lvLo, lvHi, *]) ?_ ?_ <;> (simp [hw]; exact ⟨j + 1, by omega, by omega, rfl, by omega⟩)
        · have c4 : ls[j].kind = 4 := by omega
          simp [c1, c2, c3, c4]
          refine ⟨indW_of (by decide +kernel), ?_⟩
          refine tail _ _ j h _ 4 _ (L ++ flatF (levF ns es l ls) (j + 1)) hM0 (by rw [hfs, hlv]; simp [lvLo, lvHi, *]) ?_ ?_ <;> (simp [hw]; exact ⟨j + 1, by omega, by omega, rfl, by omega⟩)
  · have ej : j = ls.length := by omega
    subst ej
    simp [h]
end Go.Gv

set_option linter.unusedSimpArgs false
set_option maxRecDepth 4000
namespace Go.Gv
theorem fndR_V (L : List Fnd) : List.map (fun e => List.map cellV e) (fndR L) = fndR L := by
  unfold fndR
  rw [List.map_map]
  apply List.map_congr_left
  intro v _
  simp [fndC, cellV]
theorem strF_len (ns : List Nod) (ls : List Lnk) : (strF ns ls).length ≤ 3 * ns.length + ls.length := by
  unfold strF
  have := flatF_len (stF_len ns (edgN ns ls)) ns.length
  have := flatF_len (bkF_len ls) ls.length
  rw [List.length_append]; omega
theorem lvlF_len (ns : List Nod) (ls : List Lnk) (l : List Sec) : (lvlF ns ls l).length ≤ (3 + ls.length) * ls.length := flatF_len (levF_len ns (edgN ns ls) l ls) ls.length
noncomputable def chkL (ns : List Nod) (ls : List Lnk) (l : List Sec) : List Fnd := canL fcmp (strF ns ls ++ lvlF ns ls l)
noncomputable def lvlL (ns : List Nod) (ls : List Lnk) (l : List Sec) : List Fnd := canL fcmp (lvlF ns ls l)
variable {C : CC} (hC : Closed prog C)
include hC
set_option maxHeartbeats 2000000 in
theorem Check_c (hS : SlC C) (hK : ChkC C) (b1 b2 b3 : Bool) (ns : List Nod) (ls : List Lnk) (l : List Sec) (hcv : ∀ l ∈ ls, l.curve.length < 2 ^ 62) : C 543 [.agg [slx b1 (ns.map nodC), slx b2 (ls.map lnkC)], slx b3 (l.map secC)] (.tup (if netOk ns ls && useB l then [.sl (fndR (chkL ns ls l)), .int .i64 0] else [.nils, .int .i64 1])) [] := by
  have k0 := cvalid_c hC b1 b2 b3 ns ls l hcv
  refine start hC (nf := N543_checker_Check) rfl rfl ?_
  simp [N543_checker_Check]
  refine callW_of k0 (.inl rfl) ?_
  cases hv : (netOk ns ls && useB l)
  · simp
  obtain ⟨hv1, hv2⟩ := Bool.and_eq_true_iff.1 hv
  obtain ⟨l1, l2⟩ := netOk_len hv1
  have hll : l.length ≤ 40 := by
    simp only [useB, Bool.and_eq_true, decide_eq_true_eq] at hv2
    exact hv2.1.1
  have hsl := strF_len ns ls
  have hvl := lvlF_len ns ls l
  have hml : (3 + ls.length) * ls.length ≤ 403 * 400 := Nat.mul_le_mul (by omega) (by omega)
  have k1 := structure_c hC hS b1 b2 ns ls hv1 hcv [] (by simp)
  have k2 := levels_c hC b1 b2 b3 ns ls l hv1 hcv hll (strF ns ls) (by omega)
  have e0 : fndR [] = [] := rfl
  rw [e0, List.nil_append] at k1
  have k3 := sortF_c hC hK (strF ns ls ++ lvlF ns ls l) (by rw [List.length_append]; omega)
  unfold chkL
  generalize strF ns ls = A at *
  generalize lvlF ns ls l = B at *
  simp
  refine lndW_of k1 (by simp) ?_
  simp
  refine lndW_of k2 (by simp) ?_
  simp
  refine ⟨fndC_isF _, ?_⟩
  refine eatW_of k3 (fun e he => ⟨fndC_len _ e he, fndC_isF _ e he⟩) ?_
  simp [fndR_len, fndR_V]
  exact (List.take_of_length_le (by rw [fndR_len]; exact Nat.le_refl _)).symm
end Go.Gv

set_option linter.unusedSimpArgs false
namespace Go.Gv
def bigN27 (n : Nod) : Bool := decide (20 < n.shape.length) || decide (60 < n.name.length)
def bigL27 (l : Lnk) : Bool := decide (20 < l.curve.length) || decide (60 < l.name.length) || decide (60 < l.src.length) || decide (60 < l.dst.length) || decide (60 < l.sect.length)
def bigS27 (s : Sec) : Bool := decide (20 < s.area.length) || decide (20 < s.conv.length) || decide (60 < s.name.length)
def large27 (ns : List Nod) (ls : List Lnk) : Bool := decide (14 < ns.length) || decide (16 < ls.length) || ns.any bigN27 || ls.any bigL27
def many27 (l : List Sec) : Bool := decide (8 < l.length) || l.any bigS27
def ex27N : List Nod := [⟨[109], 1, 0, 0, 0, 1000, false, [(0, 0), (1000, 900)], false, 0⟩, ⟨[111], 3, 0, 0, 0, 1000, true, [], false, 0⟩]
def ex27L : List Lnk := [⟨[97], [109], [111], 1, 100, 10, 20, [115], 0, 0, true, []⟩]
variable {C : CC} (hC : Closed prog C)
include hC
theorem bigN27_c (n : Nod) : C 584 [.agg (nodC n)] (.bool (bigN27 n)) [] := by
  refine start hC (nf := N584_law27_large_1) rfl rfl ?_
  simp [N584_law27_large_1, nodC]
  unfold bigN27
  by_cases h1 : (20 : Int) < n.shape.length
  · simp [h1, show 20 < n.shape.length by omega]
  · simp [h1, show ¬ 20 < n.shape.length by omega]
    omega
theorem bigL27_c (l : Lnk) : C 585 [.agg (lnkC l)] (.bool (bigL27 l)) [] := by
  refine start hC (nf := N585_law27_large_2) rfl rfl ?_
  simp [N585_law27_large_2, lnkC]
  unfold bigL27
  by_cases h1 : (20 : Int) < l.curve.length
  · simp [h1, show 20 < l.curve.length by omega]
  by_cases h2 : (60 : Int) < l.name.length
  · simp [h1, h2, show 60 < l.name.length by omega]
  by_cases h3 : (60 : Int) < l.src.length
  · simp [h1, h2, h3, show 60 < l.src.length by omega]
  by_cases h4 : (60 : Int) < l.dst.length
  · simp [h1, h2, h3, h4, show 60 < l.dst.length by omega]
  simp [h1, h2, h3, h4, show ¬ 20 < l.curve.length by omega, show ¬ 60 < l.name.length by omega, show ¬ 60 < l.src.length by omega, show ¬ 60 < l.dst.length by omega]
  omega
theorem bigS27_c (s : Sec) : C 586 [.agg (secC s)] (.bool (bigS27 s)) [] := by
  refine start hC (nf := N586_law27_many_1) rfl rfl ?_
  simp [N586_law27_many_1, secC]
  unfold bigS27
  by_cases h1 : (20 : Int) < s.area.length
  · simp [h1, show 20 < s.area.length by omega]
  by_cases h2 : (20 : Int) < s.conv.length
  · simp [h1, h2, show 20 < s.conv.length by omega]
  simp [h1, h2, show ¬ 20 < s.area.length by omega, show ¬ 20 < s.conv.length by omega]
  omega
theorem large27_c (b1 b2 : Bool) (ns : List Nod) (ls : List Lnk) (h1 : ns.length < 2 ^ 62) (h2 : ls.length < 2 ^ 62) : C 541 [.agg [slx b1 (ns.map nodC), slx b2 (ls.map lnkC)]] (.bool (large27 ns ls)) [] := by
  have k1 := hasNod_c hC (b := b1) (xs := ns) (g := 584) (cs := []) bigN27 h1 (fun x _ => bigN27_c hC x)
  have k2 := hasLnk_c hC (b := b2) (xs := ls) (g := 585) (cs := []) bigL27 h2 (fun x _ => bigL27_c hC x)
  refine start hC (nf := N541_law27_large) rfl rfl ?_
  simp [N541_law27_large]
  unfold large27
  by_cases c1 : (14 : Int) < ns.length
  · simp [c1, show 14 < ns.length by omega]
  by_cases c2 : (16 : Int) < ls.length
  · simp [c1, c2, show 16 < ls.length by omega]
  have c1' : decide (14 < ns.length) = false := decide_eq_false (by omega)
  have c2' : decide (16 < ls.length) = false := decide_eq_false (by omega)
  rw [c1', c2']
  simp [c1, c2]
  refine callW_of k1 (.inl rfl) ?_
  cases d1 : ns.any bigN27
  · simp
    refine callW_of k2 (.inl rfl) ?_
    simp
  · simp
theorem many27_c (b : Bool) (l : List Sec) (h : l.length < 2 ^ 62) : C 542 [slx b (l.map secC)] (.bool (many27 l)) [] := by
  have k1 := hasSec_c hC (b := b) (xs := l) (g := 586) (cs := []) bigS27 h (fun x _ => bigS27_c hC x)
  refine start hC (nf := N542_law27_many) rfl rfl ?_
  simp [N542_law27_many]
  unfold many27
  by_cases c1 : (8 : Int) < l.length
  · simp [c1, show 8 < l.length by omega]
  have c1' : decide (8 < l.length) = false := decide_eq_false (by omega)
  rw [c1']
  simp [c1]
  refine callW_of k1 (.inl rfl) ?_
  simp
theorem ex27_c : C 583 [] (.agg [.sl (ex27N.map nodC), .sl (ex27L.map lnkC)]) [] := by
  have e0 : slx true ([] : List (List D)) = .nils := rfl
  refine start hC (nf := N583_law27_example) rfl rfl ?_
  simp [N583_law27_example, ex27N, ex27L, nodC, lnkC, knD]
  rfl
theorem eqFnd_c (b b' : Bool) (xs ys : List Fnd) (hx : xs.length < 2 ^ 62) (hy : ys.length < 2 ^ 62) : C 147 [slx b (fndR xs), slx b' (fndR ys)] (.bool (decide (xs = ys))) [] := by
  obtain ⟨r, hr⟩ : ∃ r, r = decide (xs = ys) := ⟨_, rfl⟩
  rw [← hr]
  refine start hC (nf := N147_slices_Equal__api_Finding_api_Finding) rfl rfl ?_
  simp [N147_slices_Equal__api_Finding_api_Finding, fndR]
  refine brB_of (fun h => ?_) (fun h => ?_) <;> simp at h <;> simp [h]
  · rw [hr, decide_eq_false]
    intro e
    exact h (by rw [e])
  have h' : xs.length = ys.length := by omega
  refine loop_of Nat (fun i => [(0, slx b (xs.map fndC)), (1, slx b' (ys.map fndC)), (12, .int .i64 xs.length), (13, .int .i64 i)])
    (fun i => i ≤ xs.length ∧ ∀ (k : Nat) (h1 : k < xs.length) (h2 : k < ys.length), k < i → xs[k] = ys[k]) (fun i => xs.length - i) 0 (by simp) (by simp [h']) ?_
  rintro i ⟨hi, hok⟩
  simp
  refine brB_of (fun h1 => ?_) (fun h1 => ?_) <;> simp at h1 <;> simp [h1]
  · have hw : IntKind.wrap .i64 ((i : Int) + 1) = ((i + 1 : Nat) : Int) := wrap_i64 (by omega) (by omega)
    have hy1 : i < ys.length := by omega
    simp [h1, hy1, fndC]
    refine ⟨indW_of (by decide +kernel), ?_⟩
    by_cases h2 : xs[i] = ys[i]
    · simp [h2, hw]
      refine ⟨i + 1, ⟨by omega, fun k k1 k2 hk => ?_⟩, by omega, rfl⟩
      rcases Nat.lt_succ_iff_lt_or_eq.1 hk with h5 | rfl
      · exact hok k k1 k2 h5
      · exact h2
    · have h3 : ¬ (xs[i].1 = ys[i].1 ∧ xs[i].2 = ys[i].2) := fun e => h2 (Prod.ext e.1 e.2)
      refine brB_of (fun h4 => ?_) (fun h4 => ?_) <;> simp at h4 <;> simp [h4]
      · rw [hr, decide_eq_false]
        intro e
        exact h2 (by simp [e])
      · exact absurd h4 h3
  · rw [hr, decide_eq_true]
    exact List.ext_getElem h' fun k k1 k2 => hok k k1 k2 (by omega)
end Go.Gv

set_option linter.unusedSimpArgs false
namespace Go.Gv
theorem ex27_edg : edgN ex27N ex27L = [(0, 1)] := by decide +kernel
theorem ex27_ok : (netOk ex27N ex27L && useB []) = true := by decide +kernel
theorem pth01 {k : Nat} (h : Pth [(0, 1)] 1 k) : k = 1 := by
  cases h with
  | refl => rfl
  | step e _ => simp at e
theorem wy01 (i k : Nat) : wyB [(0, 1)] i k = (decide (i = 0) && decide (k = 1)) := by
  rw [Bool.eq_iff_iff, wyB_iff]
  simp only [Bool.and_eq_true, decide_eq_true_eq]
  constructor
  · rintro ⟨s, h1, h2⟩
    simp at h1
    obtain ⟨rfl, rfl⟩ := h1
    exact ⟨rfl, pth01 h2⟩
  · rintro ⟨rfl, rfl⟩
    exact ⟨1, by simp, .refl 1⟩
theorem ex27_str : strF ex27N ex27L = [(2, [97])] := by
  unfold strF
  rw [ex27_edg]
  have e1 : stF ex27N [(0, 1)] = fun i => one (decide (i = 0) && decide (i = 1)) (1, nodNm ex27N i) ++ one (!decide (nodK ex27N i = 3) && !((List.range ex27N.length).any fun k => (decide (i = 0) && decide (k = 1)) && decide (nodK ex27N k = 3))) (3, nodNm ex27N i) ++ one (!metB [(0, 1)] 1 i) (8, nodNm ex27N i) := by
    funext i
    unfold stF lostB
    simp only [wy01, List.length_cons, List.length_nil]
  rw [e1]
  decide +kernel
theorem ex27_lvl : lvlF ex27N ex27L [] = [(6, [97])] := by
  unfold lvlF
  rw [ex27_edg]
  decide +kernel
theorem ex27_chk : chkL ex27N ex27L [] = [(2, [97]), (6, [97])] := by
  unfold chkL
  rw [ex27_str, ex27_lvl]
  refine canL_eq fcmp_tc ?_ fun x => Iff.rfl
  refine List.pairwise_cons.2 ⟨fun y hy => ?_, List.pairwise_singleton _ _⟩
  simp at hy
  subst hy
  decide +kernel
variable {C : CC} (hC : Closed prog C)
include hC
theorem awake27_c (hS : SlC C) (hK : ChkC C) : C 540 [] (.bool true) [] := by
  have k1 := ex27_c hC
  have k2 := Check_c hC hS hK false false true ex27N ex27L [] (by decide)
  have k3 := Adverse_c hC false false ex27N ex27L (by decide)
  rw [ex27_ok, ex27_chk] at k2
  have e1 : netOk ex27N ex27L = true := (Bool.and_eq_true_iff.1 ex27_ok).1
  have e2 : lmT ex27L backB ex27L.length = [[97]] := by decide +kernel
  rw [e1, e2] at k3
  simp only [slx_false, if_true] at k2 k3
  have e3 : slx true (([] : List Sec).map secC) = .nils := rfl
  rw [e3] at k2
  have k4 := eqFnd_c hC false false [(2, [97]), (6, [97])] [(2, [97]), (6, [97])] (by simp) (by simp)
  have k5 := eqStr_c hC false false [[97]] [[97]] (by simp) (by simp)
  simp only [slx_false] at k4 k5
  have f1 : fndR [(2, [97]), (6, [97])] = [[.int .i64 2, .str [97]], [.int .i64 6, .str [97]]] := rfl
  have f2 : strR [[97]] = [[.str [97]]] := rfl
  rw [f1] at k2 k4
  rw [f2] at k3 k5
  generalize ex27N.map nodC = X at *
  generalize ex27L.map lnkC = Y at *
  refine start hC (nf := N540_law27_awake) rfl rfl ?_
  simp [N540_law27_awake]
  refine callW_of k1 (.inr rfl) ?_
  simp
  refine callW_of k2 (.inr rfl) ?_
  simp
  refine callW_of k1 (.inr rfl) ?_
  simp
  refine callW_of k3 (.inr rfl) ?_
  simp
  refine callW_of k4 (.inl rfl) ?_
  simp
  refine callW_of k5 (.inl rfl) ?_
  simp
end Go.Gv

set_option linter.unusedSimpArgs false
namespace Go.Gv
/-- The nodes on one loop with a node, so far as they are known. -/
def lpM (R : Nat → Nat → Bool) (i k : Nat) : List Nat := (List.range k).filter fun k' => mutB R i k'
def lpE (R : Nat → Nat → Bool) (i k v : Nat) : Bool := lpDone R i v || (decide (v < k) && mutB R i v)
variable {C : CC} (hC : Closed prog C)
include hC
end Go.Gv

set_option linter.unusedSimpArgs false
namespace Go.Gv
variable {C : CC} (hC : Closed prog C)
include hC
end Go.Gv

set_option linter.unusedSimpArgs false
namespace Go.Gv
open Go.Lib
theorem canL_len {α : Type} [DecidableEq α] (c : α → α → Int) (M : List α) : (canL c M).length ≤ M.length := by
  unfold canL
  exact Nat.le_trans (ddL_len _) (by rw [srtL_len]; exact Nat.le_refl _)
variable {C : CC} (hC : Closed prog C)
include hC
end Go.Gv

set_option linter.unusedSimpArgs false
set_option maxRecDepth 4000
namespace Go.Gv
theorem mem_nmT {ns : List Nod} {f : Nat → Bool} {k : Nat} {x : List UInt8} : x ∈ nmT ns f k ↔ ∃ i, i < k ∧ f i = true ∧ nodNm ns i = x := by
  induction k with
  | zero => simp [nmT]
  | succ k ih =>
    rw [nmT, List.mem_append, ih]
    constructor
    · rintro (⟨i, h1, h2⟩ | h)
      · exact ⟨i, by omega, h2⟩
      · by_cases e : f k = true
        · rw [if_pos e] at h
          simp at h
          exact ⟨k, by omega, e, h.symm⟩
        · rw [if_neg e] at h; cases h
    · rintro ⟨i, h1, h2, h3⟩
      by_cases e : i = k
      · subst e
        right
        rw [if_pos h2, h3]; simp
      · exact .inl ⟨i, by omega, h2, h3⟩
theorem nodNm_inj {ns : List Nod} {ls : List Lnk} (hv : netOk ns ls = true) {i k : Nat} (hi : i < ns.length) (hk : k < ns.length) (e : nodNm ns i = nodNm ns k) : i = k := by
  have h1 := (netOk_nod hv hi).2
  have h2 := (netOk_nod hv hk).2
  rw [nodNm_get hi, nodNm_get hk] at e
  rw [e, h2] at h1
  omega
theorem nmT_has {ns : List Nod} {ls : List Lnk} (hv : netOk ns ls = true) {f : Nat → Bool} {i : Nat} (hi : i < ns.length) : (nmT ns f ns.length).contains ns[i].name = f i := by
  rw [Bool.eq_iff_iff, List.contains_iff_mem, mem_nmT]
  constructor
  · rintro ⟨k, h1, h2, h3⟩
    rw [← nodNm_get hi] at h3
    rw [← nodNm_inj hv h1 hi h3]; exact h2
  · intro h
    exact ⟨i, hi, h, nodNm_get hi⟩
theorem chk_loop {ns : List Nod} {ls : List Lnk} {l : List Sec} (hv : netOk ns ls = true) {i : Nat} (hi : i < ns.length) : decide ((1, ns[i].name) ∈ chkL ns ls l) = wyB (edgN ns ls) i i := by
  rw [Bool.eq_iff_iff, decide_eq_true_eq]
  unfold chkL strF lvlF
  rw [canL_mem]
  simp only [List.mem_append, mem_flatF, stF, bkF, levF, mem_one, Prod.mk.injEq]
  constructor
  · rintro ((⟨k, h1, h2⟩ | ⟨k, h1, h2⟩) | ⟨k, h1, h2⟩)
    · rcases h2 with (h2 | h2) | h2
      · rw [← nodNm_get hi] at h2
        rw [nodNm_inj hv hi h1 h2.2.2]; exact h2.1
      · omega
      · omega
    · omega
    · rcases h2 with ((h2 | h2) | h2) | h2
      · omega
      · omega
      · omega
      · split at h2
        · cases h2
        · simp only [mem_flatF, narF, mem_one, Prod.mk.injEq] at h2
          obtain ⟨_, _, _, h3, _⟩ := h2
          omega
  · intro h
    exact .inl (.inl ⟨i, hi, .inl (.inl ⟨h, trivial, (nodNm_get hi).symm⟩)⟩)
variable {C : CC} (hC : Closed prog C)
include hC
theorem Below_c (hS : SlC C) (b1 b2 : Bool) (ns : List Nod) (ls : List Lnk) (i : Nat) (hi : i < ns.length) (hcv : ∀ l ∈ ls, l.curve.length < 2 ^ 62) (hv : netOk ns ls = true) : C 561 [.agg [slx b1 (ns.map nodC), slx b2 (ls.map lnkC)], .str ns[i].name] (.tup [.sl (strR (nmT ns (wyB (edgN ns ls) i) ns.length)), .int .i64 0]) [] := by
  have k1 := netOk_c hC b1 b2 ns ls hcv
  have k2 := nEdges_c hC b1 b2 ns ls hv
  obtain ⟨l1, l2⟩ := netOk_len hv
  have k3 := ways_c hC hS b1 b2 false ns ls (edgN ns ls) ns[i].name l1 (by rw [edgN_len]; omega) (edgN_in hv)
  have hidx := (netOk_nod hv hi).2
  have e1 : waysV ns (edgN ns ls) ns[i].name = .sl (strR (nmT ns (wyB (edgN ns ls) i) ns.length)) := by
    unfold waysV waysL
    rw [hidx, if_pos (by omega)]
    rfl
  have e2 : waysE ns ns[i].name = 0 := by
    unfold waysE
    rw [hidx, if_pos (by omega)]
  rw [slx_false, e1, e2] at k3
  rw [hv] at k1
  generalize strR (nmT ns (wyB (edgN ns ls) i) ns.length) = B at *
  refine start hC (nf := N561_network_Below) rfl rfl ?_
  simp [N561_network_Below]
  refine callW_of k1 (.inl rfl) ?_
  simp
  refine callW_of k2 (.inr rfl) ?_
  simp
  refine callW_of k3 (.inr rfl) ?_
  simp
  exact indW_of (by decide +kernel)
theorem idxFnd_c (b : Bool) (xs : List Fnd) (s : Fnd) (hs : xs.length < 2 ^ 62) : C 599 [slx b (fndR xs), .agg (fndC s)] (.int .i64 (idxD (fun x => decide (x = s)) xs)) [] := by
  refine start hC (nf := N599_slices_Index__api_Finding_api_Finding) rfl rfl ?_
  simp [N599_slices_Index__api_Finding_api_Finding, fndR, fndC]
  refine loop_of Nat (fun i => [(0, slx b (xs.map fndC)), (3, .ptr [.int .i64 s.1, .str s.2]), (7, .int .i64 xs.length), (8, .int .i64 i)]) (fun i => i ≤ xs.length ∧ ∀ (j : Nat) (h : j < xs.length), j < i → decide (xs[j] = s) = false) (fun i => xs.length - i) 0 (by simp) (by simp [fndC]) ?_
  rintro i ⟨hi, hj⟩
  simp
  refine brB_of (fun h => ?_) (fun h => ?_) <;> simp [h] <;> simp at h
  · have hw : IntKind.wrap .i64 ((i : Int) + 1) = ((i + 1 : Nat) : Int) := wrap_i64 (by omega) (by omega)
    simp [h, fndC]
    refine ⟨indW_of (by decide +kernel), ?_⟩
    by_cases h1 : xs[i] = s
    · simp [h1]
      rw [idxD_step hj h (by simp [h1])]
    · have h3 : ¬ (s.1 = xs[i].1 ∧ s.2 = xs[i].2) := fun e => h1 (Prod.ext e.1.symm e.2.symm)
      refine brB_of (fun h4 => ?_) (fun h4 => ?_) <;> simp at h4 <;> simp [h4, hw]
      · exact absurd h4 h3
      · refine ⟨i + 1, ⟨by omega, fun j hl hjj => ?_⟩, by omega, by omega⟩
        rcases Nat.lt_succ_iff_lt_or_eq.1 hjj with h2 | rfl
        · simpa using hj j hl h2
        · exact h1
  · rw [idxD_none (fun j hl => by simpa using hj j hl (by omega))]
theorem hasFnd_c (b : Bool) (xs : List Fnd) (k : Int) (nm : List UInt8) (hs : xs.length < 2 ^ 62) : C 563 [slx b (fndR xs), .int .i64 k, .str nm] (.bool (decide ((k, nm) ∈ xs))) [] := by
  have hss : slx b (fndR xs) = .nils ∨ slx b (fndR xs) = .sl (fndR xs) := by
    unfold slx; split
    · exact .inl rfl
    · exact .inr rfl
  have k1 : C 554 [slx b (fndR xs), .agg (fndC (k, nm))] (.bool (decide ((k, nm) ∈ xs))) [] := by
    have k0 := idxFnd_c hC b xs (k, nm) hs
    have e : decide ((k, nm) ∈ xs) = xs.any (fun x => decide (x = (k, nm))) := by
      rw [Bool.eq_iff_iff]; simp
    rw [e]
    refine start hC (nf := N554_slices_Contains__api_Finding_api_Finding) rfl rfl ?_
    simp only [N554_slices_Contains__api_Finding_api_Finding]
    simp [fndC] at k0 ⊢
    refine callW_of k0 (.inl rfl) ?_
    simp [idxD_any]
  refine start hC (nf := N563_law27_has) rfl rfl ?_
  simp [N563_law27_has]
  simp [fndC] at k1
  refine callW_of k1 (.inl rfl) ?_
  simp
end Go.Gv

set_option linter.unusedSimpArgs false
set_option maxRecDepth 4000
namespace Go.Gv
section
variable {n : Nat} {R : Nat → Nat → Bool}
theorem mem_lpL {i k : Nat} : k ∈ lpL n R i ↔ k < n ∧ (k = i ∨ (i < k ∧ mutB R i k = true)) := by
  simp [lpL]
theorem mem_lpsT {K : Nat} {x : List Nat} : x ∈ lpsT n R K ↔ ∃ i, i < K ∧ lpSeen R i i = false ∧ R i i = true ∧ x = lpL n R i := by
  induction K with
  | zero => simp [lpsT]
  | succ K ih =>
    rw [lpsT, List.mem_append, ih]
    constructor
    · rintro (⟨i, h1, h2⟩ | h)
      · exact ⟨i, by omega, h2⟩
      · split at h
        · cases h
        · rename_i hc
          simp at hc h
          exact ⟨K, by omega, hc.1, hc.2, h⟩
    · rintro ⟨i, h1, h2, h3, h4⟩
      by_cases e : i = K
      · subst e
        right
        rw [h2, h3]
        simp [h4]
      · exact .inl ⟨i, by omega, h2, h3, h4⟩
/-- Whoever is in a loop has a way to all of it. -/
theorem lpL_ways (ht : ∀ i k m, R i k = true → R k m = true → R i m = true) {i x y : Nat} (hR : R i i = true) (hx : x ∈ lpL n R i) (hy : y ∈ lpL n R i) : R x y = true := by
  have h1 : R x i = true := by
    rcases (mem_lpL.1 hx).2 with rfl | h
    · exact hR
    · have := h.2; simp only [mutB, Bool.and_eq_true] at this; exact this.2
  have h2 : R i y = true := by
    rcases (mem_lpL.1 hy).2 with rfl | h
    · exact hR
    · have := h.2; simp only [mutB, Bool.and_eq_true] at this; exact this.1
  exact ht _ _ _ h1 h2
theorem lpL_mut {i x : Nat} (hR : R i i = true) (hx : x ∈ lpL n R i) : mutB R i x = true := by
  rcases (mem_lpL.1 hx).2 with rfl | h
  · simp [mutB, hR]
  · exact h.2
/-- How many of the loops hold a node. -/
def cntL (l : List (List Nat)) (x : Nat) : Nat := (l.filter fun y => decide (x ∈ y)).length
theorem cnt_one (ht : ∀ i k m, R i k = true → R k m = true → R i m = true) {x : Nat} (hx : x < n) (K : Nat) : cntL (lpsT n R K) x = if ∃ i, i < K ∧ lpSeen R i i = false ∧ R i i = true ∧ x ∈ lpL n R i then 1 else 0 := by
  induction K with
  | zero => simp [lpsT, cntL]
  | succ K ih =>
    have hsum : cntL (lpsT n R (K + 1)) x = cntL (lpsT n R K) x + (if lpSeen R K K = false ∧ R K K = true ∧ x ∈ lpL n R K then 1 else 0) := by
      unfold cntL
      rw [lpsT, List.filter_append, List.length_append]
      congr 1
      by_cases h1 : lpSeen R K K = true
      · simp [h1]
      · have h1' : lpSeen R K K = false := by simpa using h1
        cases h2 : R K K
        · simp [h1', h2]
        · by_cases h3 : x ∈ lpL n R K
          · simp [h1', h2, h3]
          · simp [h1', h2, h3]
    rw [hsum, ih]
    by_cases h : lpSeen R K K = false ∧ R K K = true ∧ x ∈ lpL n R K
    · have hno : ¬ ∃ i, i < K ∧ lpSeen R i i = false ∧ R i i = true ∧ x ∈ lpL n R i := by
        rintro ⟨i, h1, _, h3, h4⟩
        have m1 := lpL_mut h3 h4
        have m2 := lpL_mut h.2.1 h.2.2
        rw [mutB_symm] at m2
        have : lpSeen R K K = true := lpSeen_iff.2 ⟨i, h1, h1, mutB_trans ht m1 m2⟩
        rw [h.1] at this; cases this
      rw [if_neg hno, if_pos h, if_pos ⟨K, by omega, h⟩]
    · rw [if_neg h]
      have : (∃ i, i < K ∧ lpSeen R i i = false ∧ R i i = true ∧ x ∈ lpL n R i) ↔ ∃ i, i < K + 1 ∧ lpSeen R i i = false ∧ R i i = true ∧ x ∈ lpL n R i := by
        constructor
        · rintro ⟨i, h1, h2⟩
          exact ⟨i, by omega, h2⟩
        · rintro ⟨i, h1, h2⟩
          by_cases e : i = K
          · subst e; exact absurd h2 h
          · exact ⟨i, by omega, h2⟩
      simp only [this, Nat.add_zero]
theorem lp_first (ht : ∀ i k m, R i k = true → R k m = true → R i m = true) {x : Nat} (hx : x < n) : (∃ i, i < n ∧ lpSeen R i i = false ∧ R i i = true ∧ x ∈ lpL n R i) ↔ R x x = true := by
  constructor
  · rintro ⟨i, _, _, h3, h4⟩
    exact lpL_ways ht h3 h4 h4
  · intro h
    have hex : ∃ k, mutB R k x = true := ⟨x, by simp [mutB, h]⟩
    have key : ∀ m k, k ≤ m → mutB R k x = true → ∃ i, i ≤ k ∧ mutB R i x = true ∧ ∀ j, j < i → mutB R j x = false := by
      intro m
      induction m with
      | zero => exact fun k hk h1 => ⟨k, Nat.le_refl _, h1, fun j hj => by omega⟩
      | succ m ih =>
        intro k hk h1
        by_cases e : ∃ j, j < k ∧ mutB R j x = true
        · obtain ⟨j, h2, h3⟩ := e
          obtain ⟨i, h4, h5⟩ := ih j (by omega) h3
          exact ⟨i, by omega, h5⟩
        · exact ⟨k, Nat.le_refl _, h1, fun j hj => by
            cases hm : mutB R j x
            · rfl
            · exact absurd ⟨j, hj, hm⟩ e⟩
    obtain ⟨i, h1, h2, h3⟩ := key x x (Nat.le_refl _) (by simp [mutB, h])
    have h2' := h2
    simp only [mutB, Bool.and_eq_true] at h2'
    refine ⟨i, by omega, ?_, ht _ _ _ h2'.1 h2'.2, mem_lpL.2 ⟨hx, ?_⟩⟩
    · cases hs : lpSeen R i i
      · rfl
      · obtain ⟨j, j1, _, j3⟩ := lpSeen_iff.1 hs
        have := h3 j j1
        rw [mutB_trans ht j3 h2] at this
        cases this
    · by_cases e : x = i
      · exact .inl e
      · exact .inr ⟨by omega, h2⟩
theorem cnt_self (ht : ∀ i k m, R i k = true → R k m = true → R i m = true) {x : Nat} (hx : x < n) : cntL (lpsT n R n) x = if R x x = true then 1 else 0 := by
  rw [cnt_one ht hx]
  simp only [lp_first ht hx]
end
end Go.Gv

set_option linter.unusedSimpArgs false
set_option maxRecDepth 4000
namespace Go.Gv
/-- The loops are so many lists of names. -/
theorem nm_contains {ns : List Nod} {ls : List Lnk} (hv : netOk ns ls = true) {x : List Nat} (hx : ∀ k ∈ x, k < ns.length) {i : Nat} (hi : i < ns.length) : (x.map (nodNm ns)).contains ns[i].name = decide (i ∈ x) := by
  rw [Bool.eq_iff_iff, List.contains_iff_mem, decide_eq_true_eq, List.mem_map]
  constructor
  · rintro ⟨k, h1, h2⟩
    rw [← nodNm_get hi] at h2
    rw [← nodNm_inj hv (hx k h1) hi h2]; exact h1
  · intro h
    exact ⟨i, h, nodNm_get hi⟩
/-- How many lists of the first k hold a name. -/
def cntN (L : List (List (List UInt8))) (nm : List UInt8) (k : Nat) : Nat := ((L.take k).filter fun y => y.contains nm).length
theorem cntN_succ {L : List (List (List UInt8))} (nm : List UInt8) {k : Nat} (h : k < L.length) : cntN L nm (k + 1) = cntN L nm k + (if L[k].contains nm = true then 1 else 0) := by
  unfold cntN
  rw [List.take_succ_eq_append_getElem h, List.filter_append, List.length_append]
  congr 1
  by_cases e : nm ∈ L[k]
  · simp [List.filter, e]
  · simp [List.filter, e]
theorem cntN_le (L : List (List (List UInt8))) (nm : List UInt8) (k : Nat) : cntN L nm k ≤ k := by
  unfold cntN
  exact Nat.le_trans (List.length_filter_le _ _) (by simp; omega)
/-- What the law wants of the loops' names. -/
structure LpOk (ns : List Nod) (R : Nat → Nat → Bool) (LN : List (List (List UInt8))) : Prop where
  two : ∀ (k : Nat) (h : k < LN.length), 2 ≤ LN[k].length ∧ LN[k].length ≤ ns.length
  len : LN.length ≤ ns.length
  cnt : ∀ (i : Nat) (h : i < ns.length), cntN LN ns[i].name LN.length = if R i i = true then 1 else 0
  way : ∀ (i : Nat) (h : i < ns.length) (k : Nat) (hk : k < LN.length), LN[k].contains ns[i].name = true → ∀ y ∈ LN[k], (nmT ns (R i) ns.length).contains y = true
theorem loop_ok {ns : List Nod} {ls : List Lnk} (hv : netOk ns ls = true) : LpOk ns (wyB (edgN ns ls)) (loopN ns (edgN ns ls)) := by
  have hirr := edgN_irr hv
  have hg := edgN_in hv
  have htr : ∀ i k m, wyB (edgN ns ls) i k = true → wyB (edgN ns ls) k m = true → wyB (edgN ns ls) i m = true := fun i k m => wyB_trans
  have htwo : ∀ {i : Nat}, i < ns.length → lpSeen (wyB (edgN ns ls)) i i = false → decide (1 < (lpL ns.length (wyB (edgN ns ls)) i).length) = wyB (edgN ns ls) i i := fun hi hs => lpL_two (fun i h => wyB_self hirr hg h) htr hi hs
  have hget : ∀ (k : Nat) (h : k < (loopN ns (edgN ns ls)).length), ∃ i, i < ns.length ∧ lpSeen (wyB (edgN ns ls)) i i = false ∧ wyB (edgN ns ls) i i = true ∧ (loopN ns (edgN ns ls))[k] = (lpL ns.length (wyB (edgN ns ls)) i).map (nodNm ns) := fun k h => by
    unfold loopN at h ⊢
    have h' : k < (lpsT ns.length (wyB (edgN ns ls)) ns.length).length := by simpa using h
    obtain ⟨i, h1, h2, h3, h4⟩ := mem_lpsT.1 (List.getElem_mem h')
    exact ⟨i, h1, h2, h3, by rw [List.getElem_map, h4]⟩
  have hlt : ∀ i, ∀ k ∈ lpL ns.length (wyB (edgN ns ls)) i, k < ns.length := fun i k hk => (mem_lpL.1 hk).1
  refine ⟨fun k h => ?_, by unfold loopN; rw [List.length_map]; exact lpsT_len _ _ _, fun i h => ?_, fun i h k hk hc y hy => ?_⟩
  · obtain ⟨i, h1, h2, h3, h4⟩ := hget k h
    rw [h4, List.length_map]
    have h5 := htwo h1 h2
    rw [h3, decide_eq_true_eq] at h5
    exact ⟨h5, by unfold lpL; exact Nat.le_trans (List.length_filter_le _ _) (by simp)⟩
  · rw [← cnt_self htr h]
    unfold cntN cntL loopN
    rw [List.take_length, List.filter_map, List.length_map]
    congr 1
    apply List.filter_congr
    intro x hx
    obtain ⟨j, _, _, _, rfl⟩ := mem_lpsT.1 hx
    simp only [Function.comp]
    exact nm_contains hv (hlt j) h
  · obtain ⟨j, h1, h2, h3, h4⟩ := hget k hk
    rw [h4] at hc hy
    rw [nm_contains hv (hlt j) h, decide_eq_true_eq] at hc
    obtain ⟨m, hm, rfl⟩ := List.mem_map.1 hy
    have hml := hlt j m hm
    rw [nodNm_get hml, nmT_has hv hml]
    exact lpL_ways htr h3 hc hm
theorem loop_nil {ns : List Nod} {ls : List Lnk} (hv : netOk ns ls = true) : decide (ordE ns.length (edgN ns ls) = 0) = decide ((loopN ns (edgN ns ls)).length = 0) := by
  have h1 := ord_acyc (n := ns.length) (edgN_in hv)
  have h2 : loopN ns (edgN ns ls) = [] ↔ ∀ i, i < ns.length → wyB (edgN ns ls) i i = false := by
    unfold loopN
    rw [List.map_eq_nil_iff]
    exact lpsT_nil fun i k m => wyB_trans
  have h3 : (ordF ns.length (edgN ns ls)).length ≤ ns.length := ordF_len _ _
  rw [Bool.eq_iff_iff, decide_eq_true_eq, decide_eq_true_eq, List.length_eq_zero_iff, h2]
  unfold ordE
  rw [Bool.eq_iff_iff] at h1
  simp only [decide_eq_true_eq, Bool.not_eq_true', List.any_eq_false, List.mem_range, Bool.not_eq_true] at h1
  rw [← h1]
  constructor
  · intro h
    split at h
    · cases h
    · omega
  · intro h
    rw [if_neg (by omega)]
variable {C : CC} (hC : Closed prog C)
include hC
set_option maxHeartbeats 8000000 in
theorem CheckerLoops_c (hS : SlC C) (hK : ChkC C) (b1 b2 : Bool) (ns : List Nod) (ls : List Lnk) (hn : ns.length < 2 ^ 62) (hl : ls.length < 2 ^ 62) (hcv : ∀ l ∈ ls, l.curve.length < 2 ^ 62) (b3 : Bool) (l : List Sec) (hs : l.length < 2 ^ 62) : C 532 [.agg [slx b1 (ns.map nodC), slx b2 (ls.map lnkC)], slx b3 (l.map secC)] (.bool true) [] := by
  have k0 := awake27_c hC hS hK
  have k1 := large27_c hC b1 b2 ns ls hn hl
  have k1' := many27_c hC b3 l hs
  have k2 := Loops_c hC hS b1 b2 ns ls hcv
  have k3 := Check_c hC hS hK b1 b2 b3 ns ls l hcv
  have k4 := netOk_c hC b1 b2 ns ls hcv
  have k5 := NOrder_c hC hS b1 b2 ns ls hcv
  refine start hC (nf := N532_law27_CheckerLoops) rfl rfl ?_
  simp [N532_law27_CheckerLoops]
  refine callW_of k0 (.inl rfl) ?_
  simp
  refine callW_of k1 (.inl rfl) ?_
  simp
  refine brB_of (fun hlg => ?_) (fun hlg => ?_)
  · simp [hlg]
  simp [hlg]
  refine callW_of k1' (.inl rfl) ?_
  simp
  refine brB_of (fun hmn => ?_) (fun hmn => ?_)
  · simp [hmn]
  simp [hmn]
  refine callW_of k2 (.inr rfl) ?_
  cases hv : netOk ns ls
  · rw [hv] at k4
    simp
    refine callW_of k4 (.inl rfl) ?_
    simp
  have l1 := (netOk_len hv).1
  have k6 := fun i (hi : i < ns.length) => Below_c hC hS b1 b2 ns ls i hi hcv hv
  have hBl : ∀ i, (nmT ns (wyB (edgN ns ls) i) ns.length).length < 2 ^ 62 := fun i => by have := nmT_len ns (wyB (edgN ns ls) i) ns.length; omega
  have k7 := fun i s => hasStr_c hC false (nmT ns (wyB (edgN ns ls) i) ns.length) s (hBl i)
  have hsf := fun i (hi : i < ns.length) => nmT_has hv (f := wyB (edgN ns ls) i) hi
  have hok := loop_ok hv
  have hnil := loop_nil hv
  have hcp := fun i (hi : i < ns.length) => chk_loop (l := l) hv hi
  have hA : useB l = true → (chkL ns ls l).length < 2 ^ 62 := fun _ => by
    unfold chkL
    have := canL_len fcmp (strF ns ls ++ lvlF ns ls l)
    have := strF_len ns ls
    have := lvlF_len ns ls l
    have := netOk_len hv
    have hml : (3 + ls.length) * ls.length ≤ 403 * 400 := Nat.mul_le_mul (by omega) (by omega)
    rw [List.length_append] at *
    omega
  have k9 := fun hu i (hi : i < ns.length) => hasFnd_c hC false (chkL ns ls l) 1 ns[i].name (hA hu)
  rw [hv] at k3 k5
  simp only [slx_false, Bool.true_and, if_true] at k3 k5 k7 k9
  obtain ⟨cO, XO, hXO⟩ : ∃ c X, ordV ns.length (edgN ns ls) = slx c X := by
    unfold ordV
    split
    · exact ⟨true, [], rfl⟩
    · exact ⟨false, _, rfl⟩
  rw [hXO] at k5
  obtain ⟨g, F, hF, hg⟩ : ∃ (g : Int) (F : D), (if useB l = true then [D.sl (fndR (chkL ns ls l)), D.int .i64 0] else [.nils, .int .i64 1]) = [F, .int .i64 g] ∧ (g = 0 → useB l = true ∧ F = .sl (fndR (chkL ns ls l))) := by
    cases useB l
    · exact ⟨1, .nils, by simp, by simp⟩
    · exact ⟨0, .sl (fndR (chkL ns ls l)), by simp, by simp⟩
  rw [hF] at k3
  have hFs : ∃ c X, F = slx c X := by
    cases hu : useB l
    · rw [hu] at hF
      simp at hF
      exact ⟨true, [], hF.1.symm⟩
    · rw [hu] at hF
      simp at hF
      exact ⟨false, _, hF.1.symm⟩
  obtain ⟨cF, XF, rfl⟩ := hFs
  generalize edgN ns ls = es at *
  generalize loopN ns es = LN at *
  simp only [if_true]
  simp
  refine callW_of k3 (.inr rfl) ?_
  simp
  refine callW_of k5 (.inr rfl) ?_
  have hLl : (lstD LN).length = LN.length := by simp [lstD]
  simp [hLl]
  rw [hnil]
  simp
  refine loop_of Nat (fun j => [(2, .ptr [slx b1 (ns.map nodC), slx b2 (ls.map lnkC)]), (5, .sl (lstD LN)), (7, slx cF XF), (8, .int .i64 g), (62, slx b1 (ns.map nodC)), (63, .int .i64 ns.length), (64, .int .i64 j)]) (fun j => j ≤ ns.length) (fun j => ns.length - j) 0 (by simp) (by simp) ?_
  intro j hj
  simp
  refine brB_of (fun h => ?_) (fun h => ?_) <;> simp at h
  · have hw : IntKind.wrap .i64 ((j : Int) + 1) = ((j + 1 : Nat) : Int) := wrap_i64 (by omega) (by omega)
    have hsj := hsf j h
    simp [h, nodC]
    refine callW_of (k6 j h) (.inr rfl) ?_
    simp [hLl]
    have hcl := hok.cnt j h
    have hll := hok.len
    have hcw := hok.way j h
    refine loop_of Nat (fun k => [(2, .ptr [slx b1 (ns.map nodC), slx b2 (ls.map lnkC)]), (5, .sl (lstD LN)), (7, slx cF XF), (8, .int .i64 g), (12, .adr (.r 10192) 0 0), (13, .sl (strR (nmT ns (wyB es j) ns.length))), (14, .int .i64 0), (15, .int .i64 (cntN LN ns[j].name k)), (62, slx b1 (ns.map nodC)), (63, .int .i64 ns.length), (64, .int .i64 j), (75, .sl (lstD LN)), (76, .int .i64 LN.length), (77, .int .i64 k), (10192, .blk 9 [[.str ns[j].name, .int .i64 ns[j].kind, .int .i64 ns[j].x, .int .i64 ns[j].y, .int .i64 ns[j].invert, .int .i64 ns[j].ground, slx ns[j].shapeN (ns[j].shape.map knD), .bool ns[j].prot, .int .i64 ns[j].reserve]])]) (fun k => k ≤ LN.length) (fun k => LN.length - k) 0 (by simp) (by simp [cntN]) ?_
    intro k hk
    simp
    refine brB_of (fun h2 => ?_) (fun h2 => ?_) <;> simp at h2
    · have hw2 : IntKind.wrap .i64 ((k : Int) + 1) = ((k + 1 : Nat) : Int) := wrap_i64 (by omega) (by omega)
      have hcn := cntN_succ ns[j].name h2
      have hcnl := cntN_le LN ns[j].name k
      have hw3 : IntKind.wrap .i64 ((cntN LN ns[j].name k : Int) + 1) = ((cntN LN ns[j].name k + 1 : Nat) : Int) := wrap_i64 (by omega) (by omega)
      obtain ⟨h3, h4⟩ := hok.two k h2
      have h3' : ¬ ((LN[k].length : Int) < 2) := by omega
      have hgk : (lstD LN)[k]? = some [.sl (strR LN[k])] := by simp [lstD, h2]
      have k8 := hasStr_c hC false LN[k] ns[j].name (by omega)
      simp only [slx_false] at k8
      simp [h2, idxW_some hgk, strR_len, h3']
      refine callW_of k8 (.inl rfl) ?_
      simp
      by_cases q1 : ns[j].name ∈ LN[k]
      · have q1' : LN[k].contains ns[j].name = true := by simpa using q1
        have hwy := hcw k h2 q1'
        rw [q1', if_pos rfl] at hcn
        simp [q1, hw3, strR_len]
        refine loop_of Nat (fun m => [(2, .ptr [slx b1 (ns.map nodC), slx b2 (ls.map lnkC)]), (5, .sl (lstD LN)), (7, slx cF XF), (8, .int .i64 g), (12, .adr (.r 10192) 0 0), (13, .sl (strR (nmT ns (wyB es j) ns.length))), (14, .int .i64 0), (15, .int .i64 (cntN LN ns[j].name k + 1 : Nat)), (62, slx b1 (ns.map nodC)), (63, .int .i64 ns.length), (64, .int .i64 j), (75, .sl (lstD LN)), (76, .int .i64 LN.length), (77, .int .i64 k), (90, .sl (strR LN[k])), (91, .int .i64 LN[k].length), (92, .int .i64 m), (10192, .blk 9 [[.str ns[j].name, .int .i64 ns[j].kind, .int .i64 ns[j].x, .int .i64 ns[j].y, .int .i64 ns[j].invert, .int .i64 ns[j].ground, slx ns[j].shapeN (ns[j].shape.map knD), .bool ns[j].prot, .int .i64 ns[j].reserve]])]) (fun m => m ≤ LN[k].length) (fun m => LN[k].length - m) 0 (by simp) (by simp) ?_
        intro m hm
        simp
        refine brB_of (fun h5 => ?_) (fun h5 => ?_) <;> simp at h5
        · have hw4 : IntKind.wrap .i64 ((m : Int) + 1) = ((m + 1 : Nat) : Int) := wrap_i64 (by omega) (by omega)
          have hgm : (strR LN[k])[m]? = some [.str LN[k][m]] := by simp [strR, h5]
          have hc := hwy LN[k][m] (List.getElem_mem h5)
          have k10 := k7 j LN[k][m]
          rw [hc] at k10
          simp [h5, idxW_some hgm]
          refine callW_of k10 (.inl rfl) ?_
          simp [hw4]
          exact ⟨m + 1, by omega, by omega, by omega⟩
        · have em : m = LN[k].length := by omega
          subst em
          simp [h5, hw2]
          exact ⟨k + 1, by omega, by omega, by omega, by omega⟩
      · have q1' : LN[k].contains ns[j].name = false := by simpa using q1
        rw [q1', if_neg (by simp), Nat.add_zero] at hcn
        simp [q1, hw2]
        exact ⟨k + 1, by omega, by omega, by omega, by omega⟩
    · have ek : k = LN.length := by omega
      subst ek
      have k10 := k7 j ns[j].name
      rw [hsj] at k10
      have hcj := hcp j h
      simp [h2]
      refine callW_of k10 (.inl rfl) ?_
      simp
      rw [hcl]
      cases q2 : wyB es j j
      · rw [q2] at hcj
        simp
        by_cases q3 : g = 0
        · obtain ⟨hu, hFe⟩ := hg q3
          have k11 := k9 hu j h
          rw [hcj] at k11
          simp [q3, hFe]
          refine callW_of k11 (.inl rfl) ?_
          simp [hw, hFe, q3]
          first | exact ⟨j + 1, by omega, by omega, by omega⟩ | exact ⟨j + 1, by omega, by omega, hFe.symm, q3.symm, by omega⟩ | exact ⟨j + 1, by omega, by omega, q3.symm, by omega⟩ | (trace_state; sorry)
        · simp [q3, hw]
          exact ⟨j + 1, by omega, by omega, by omega⟩
      · rw [q2] at hcj
        simp
        by_cases q3 : g = 0
        · obtain ⟨hu, hFe⟩ := hg q3
          have k11 := k9 hu j h
          rw [hcj] at k11
          simp [q3, hFe]
          refine callW_of k11 (.inl rfl) ?_
          simp [hw, hFe, q3]
          first | exact ⟨j + 1, by omega, by omega, by omega⟩ | exact ⟨j + 1, by omega, by omega, hFe.symm, q3.symm, by omega⟩ | exact ⟨j + 1, by omega, by omega, q3.symm, by omega⟩ | (trace_state; sorry)
        · simp [q3, hw]
          exact ⟨j + 1, by omega, by omega, by omega⟩
  · have ej : j = ns.length := by omega
    subst ej
    simp [h]
end Go.Gv
