/-
  Texts of the proof: Q40, Q41.
-/
import Derived.Test.YtbenilopabpjnaaGreatX8
set_option linter.all false
set_option linter.unusedSimpArgs false
namespace Go.Gv
def oneF (n k : Nat) (q : Int) : List Sp := (List.range n).map fun v => if v = k then (q, q) else (0, 0)
theorem oneF_len (n k : Nat) (q : Int) : (oneF n k q).length = n := by simp [oneF]
theorem oneF_get {n k v : Nat} (q : Int) (h : v < n) : (oneF n k q)[v]! = if v = k then (q, q) else (0, 0) := by
  rw [getElem!_pos _ v (by rw [oneF_len]; exact h)]
  simp [oneF]
theorem oneF_rng {n k : Nat} {q : Int} (h0 : 0 ≤ q) (h1 : q ≤ 1099511627776) : ∀ s ∈ oneF n k q, 0 ≤ s.1 ∧ s.1 ≤ s.2 ∧ s.2 ≤ 1099511627776 := by
  intro s hs
  obtain ⟨v, _, rfl⟩ := List.mem_map.1 hs
  by_cases e : v = k
  · rw [if_pos e]; simp only; omega
  · rw [if_neg e]; simp
theorem oneF_flow {n : Nat} {es : List Edg} (hn : n ≤ 300) (hg : inG n es) (ht : treeF n es = true) {k : Nat} (hk : k < n) {q : Int} (h0 : 0 ≤ q) (h1 : q ≤ 1099511627776) {i : Nat} (hi : i < es.length) : (flowsF n es (oneF n k q))[i]! = if upB n es k es[i].1 = true then (q, q) else (0, 0) := by
  have hl : ∀ v, v < n → 0 ≤ (oneF n k q)[v]!.1 ∧ (oneF n k q)[v]!.1 ≤ (oneF n k q)[v]!.2 ∧ (oneF n k q)[v]!.2 ≤ 1099511627776 := fun v hv => by
    rw [getElem!_pos _ v (by rw [oneF_len]; exact hv)]
    exact oneF_rng h0 h1 _ (List.getElem_mem _)
  rw [flow_up hn hg ht hl hi]
  have e : ∀ (f : Sp → Int) (hf : f (0, 0) = 0), upS n es (fun v => f (oneF n k q)[v]!) es[i].1 = if upB n es k es[i].1 = true then f (q, q) else 0 := fun f hf => by
    unfold upS
    rw [sumF_one (k0 := k) hk fun v hv hne => by
      simp only [oneF_get q hv, if_neg hne, hf]
      split <;> rfl]
    simp only [oneF_get q hk, if_true]
  have e1 := e (·.1) rfl
  have e2 := e (·.2) rfl
  simp only at e1 e2
  rw [e1, e2]
  split <;> rfl
theorem oneF_big {n : Nat} {es : List Edg} (hn : n ≤ 300) (hg : inG n es) (ht : treeF n es = true) {k : Nat} (hk : k < n) {q : Int} (h0 : 0 ≤ q) (h1 : q ≤ 1099511627776) : bigF (flowsF n es (oneF n k q)) = false := bigF_of fun s hs => by
  obtain ⟨i, hi, rfl⟩ := List.getElem_of_mem hs
  have hie : i < es.length := by simpa [flowsF] using hi
  have := oneF_flow hn hg ht hk h0 h1 hie
  rw [bang hi] at this
  rw [this]
  split <;> simp only <;> omega
theorem nmT_one {ns : List Nod} {f : Nat → Bool} {k : Nat} (hf : ∀ v, v < ns.length → (f v = true ↔ v = k)) (hk : k < ns.length) : nmT ns f ns.length = [ns[k].name] := by
  have key : ∀ K, K ≤ ns.length → nmT ns f K = if k < K then [ns[k].name] else [] := fun K => by
    induction K with
    | zero => intro _; rfl
    | succ K ih =>
      intro hK
      unfold nmT
      rw [ih (by omega)]
      by_cases e : K = k
      · subst e
        rw [if_neg (Nat.lt_irrefl _), if_pos ((hf K (by omega)).2 rfl), if_pos (Nat.lt_succ_self _), nodNm_get hk]
        rfl
      · have e2 : ¬ f K = true := fun h => e ((hf K (by omega)).1 h)
        rw [if_neg e2, List.append_nil]
        by_cases c : k < K
        · rw [if_pos c, if_pos (by omega)]
        · rw [if_neg c, if_neg (by omega)]
  rw [key _ (Nat.le_refl _), if_pos hk]
theorem most_facts {ns : List Nod} {ls : List Lnk} {ss : List Sec} (ht : treeN ns ls = true) (hv : catValid ss = true) (hp : pipE ls ss = 0) {k : Nat} {q : Int} (hq : q = msA ns.length (edgN ns ls) (cfL ss ls) k 1099511627776) :
    0 ≤ q ∧ q ≤ 1099511627776 ∧ (∀ (i : Nat) (h : i < ls.length), upB ns.length (edgN ns ls) k ((edgN ns ls)[i]!).1 = true → q ≤ fulF ss ls[i]) ∧ (q = 1099511627776 ∨ ∃ (i : Nat) (h : i < ls.length), upB ns.length (edgN ns ls) k ((edgN ns ls)[i]!).1 = true ∧ q = fulF ss ls[i]) := by
  have hpip := pipE_ok ht hp
  have hel := edgN_len ns ls
  obtain ⟨a, b, c⟩ := mnP_spec (fun i => upB ns.length (edgN ns ls) k ((edgN ns ls)[i]!).1) (cfL ss ls) 1099511627776 (edgN ns ls).length
  have hq' : q = mnP (fun i => upB ns.length (edgN ns ls) k ((edgN ns ls)[i]!).1) (cfL ss ls) 1099511627776 (edgN ns ls).length := hq
  rw [← hq'] at a b c
  rw [hel] at b c
  have c' : q = 1099511627776 ∨ ∃ (i : Nat) (h : i < ls.length), upB ns.length (edgN ns ls) k ((edgN ns ls)[i]!).1 = true ∧ q = fulF ss ls[i] := by
    rcases c with c | ⟨i, hi, hu, c⟩
    · exact .inl c
    · exact .inr ⟨i, hi, hu, by rw [c, cfL_get hi]⟩
  refine ⟨?_, a, fun i h hu => by have := b i h hu; rwa [cfL_get h] at this, c'⟩
  rcases c' with c | ⟨i, hi, _, c⟩
  · omega
  · obtain ⟨n, _, e⟩ := fulF_rng hv (hpip _ (List.getElem_mem hi))
    rw [c, e]; omega
theorem one_ov {ns : List Nod} {ls : List Lnk} {ss : List Sec} (ht : treeN ns ls = true) (hv : catValid ss = true) (hp : pipE ls ss = 0) {k : Nat} (hk : k < ns.length) {q : Int} (h0 : 0 ≤ q) (h1 : q ≤ 1099511627776) (f : Sp → Int) (hf : ∀ x : Int, f (x, x) = x) {x : List UInt8} : x ∈ ovT ss f ls (flowsF ns.length (edgN ns ls) (oneF ns.length k q)) ls.length ↔ ∃ (i : Nat) (h : i < ls.length), upB ns.length (edgN ns ls) k ((edgN ns ls)[i]!).1 = true ∧ fulF ss ls[i] < q ∧ ls[i].name = x := by
  have hpip := pipE_ok ht hp
  have ht2 := ht
  simp only [treeN, Bool.and_eq_true] at ht2
  obtain ⟨⟨hnv, _⟩, htf⟩ := ht2
  have hg := edgN_in hnv
  have hel := edgN_len ns ls
  have hn := (netOk_len hnv).1
  have hfl : (flowsF ns.length (edgN ns ls) (oneF ns.length k q)).length = ls.length := by simp [flowsF, hel]
  have hat : ∀ (i : Nat) (h : i < ls.length) (h' : i < (flowsF ns.length (edgN ns ls) (oneF ns.length k q)).length), (flowsF ns.length (edgN ns ls) (oneF ns.length k q))[i] = if upB ns.length (edgN ns ls) k ((edgN ns ls)[i]!).1 = true then (q, q) else (0, 0) := fun i h h' => by
    have hie : i < (edgN ns ls).length := by omega
    have := oneF_flow hn hg htf hk h0 h1 hie
    rw [bang h'] at this
    rw [this, getElem!_pos (edgN ns ls) i hie]
  rw [mem_ovT hfl]
  constructor
  · rintro ⟨i, a, b, c, d⟩
    rw [hat i a b] at c
    by_cases e : upB ns.length (edgN ns ls) k ((edgN ns ls)[i]!).1 = true
    · rw [if_pos e, hf] at c
      exact ⟨i, a, e, c, d⟩
    · rw [if_neg e, hf] at c
      obtain ⟨n, _, e2⟩ := fulF_rng hv (hpip _ (List.getElem_mem a))
      rw [e2] at c; omega
  · rintro ⟨i, a, e, c, d⟩
    refine ⟨i, a, by omega, ?_, d⟩
    rw [hat i a (by omega), if_pos e, hf]
    exact c
theorem one_share {ns : List Nod} {ls : List Lnk} (ht : treeN ns ls = true) {k i : Nat} (hk : k < ns.length) (hi : i < ls.length) {q : Int} (h0 : 0 < q) (h1 : q ≤ 1099511627776) (hu : upB ns.length (edgN ns ls) k ((edgN ns ls)[i]!).1 = true) : ShrE ns ls (oneF ns.length k q) ls[i].name = 0 ∧ ShrV ns ls (oneF ns.length k q) ls[i].name = .sl (strR [ns[k].name]) := by
  have ht2 := ht
  simp only [treeN, Bool.and_eq_true] at ht2
  obtain ⟨⟨hnv, _⟩, htf⟩ := ht2
  have hg := edgN_in hnv
  have hsp : spsE (oneF ns.length k q) ns.length = 0 := spsE_of (oneF_len _ _ _) (oneF_rng (by omega) h1)
  have hix := (netOk_lnk hnv hi).2.1
  have hE : ShrE ns ls (oneF ns.length k q) ls[i].name = 0 := by
    unfold ShrE
    rw [if_pos ht, if_pos hsp, hix, if_pos (by omega)]
  refine ⟨hE, ?_⟩
  unfold ShrV
  rw [if_pos hE, hix, Int.toNat_natCast, nmT_one (k := k) (fun v hv => ?_) hk]
  unfold shrF upX
  rw [oneF_get q hv]
  have hup := upX_eq hg htf (x := ((edgN ns ls)[i]!).1) hv
  rw [hup]
  by_cases e : v = k
  · subst e
    rw [hu]
    simp [h0]
  · simp [e]
end Go.Gv

set_option linter.unusedSimpArgs false
namespace Go.Gv
theorem oneF_set0 {n x : Nat} (q : Int) : (List.replicate n [D.int .i64 0, D.int .i64 0]).set x [.int .i64 q, .int .i64 q] = (oneF n x q).map knD := by
  have e : List.replicate n [D.int .i64 0, D.int .i64 0] = (List.range n).map fun _ => [D.int .i64 0, D.int .i64 0] := by simp [rep_map]
  rw [e, set_rm, oneF, List.map_map]
  apply List.map_congr_left
  intro v _
  by_cases h : v = x <;> simp [h, knD]
theorem oneF_set {n x : Nat} (p q : Int) : ((oneF n x p).map knD).set x [.int .i64 q, .int .i64 q] = (oneF n x q).map knD := by
  rw [oneF, List.map_map, set_rm, oneF, List.map_map]
  apply List.map_congr_left
  intro v _
  by_cases h : v = x <;> simp [h, knD]
theorem oneF_V (n x : Nat) (q : Int) : ((oneF n x q).map knD).map (fun e => e.map cellV) = (oneF n x q).map knD := by
  rw [List.map_map]
  apply List.map_congr_left
  intro v _
  simp [knD, cellV]
theorem knD_drop (z : Sp) : List.drop 2 (knD z) = [] := rfl
theorem knD_dropV (z : Sp) : List.drop 2 (List.map cellV (knD z)) = [] := rfl
theorem knD_mapV (l : List Sp) : List.map ((fun e => List.map cellV e) ∘ knD) l = List.map knD l := by
  apply List.map_congr_left
  intro v _
  simp [knD, cellV]
theorem knD_len (z : Sp) : (knD z).length = 2 := rfl
variable {C : CC} (hC : Closed prog C)
include hC
set_option maxRecDepth 20000 in
set_option maxHeartbeats 8000000 in
theorem SteadyMost_c (hS : SlC C) (b1 b2 : Bool) (ns : List Nod) (ls : List Lnk) (h1 : ns.length < 2 ^ 62) (h2 : ls.length < 2 ^ 62) (hcv : ∀ l ∈ ls, l.curve.length < 2 ^ 62) (b : Bool) (ss : List Sec) (h3 : ss.length < 2 ^ 62) (u : Int) (hu : 0 ≤ u ∧ u ≤ 255) :
    C 424 [.agg [slx b1 (ns.map nodC), slx b2 (ls.map lnkC)], slx b (ss.map secC), .int .u8 u] (.bool true) [] := by
  obtain ⟨hu0, hu1⟩ := hu
  have k0 := awake30_c hC hS
  have k1 := large30_c hC b1 b2 b true ns ls ss [] h1 h2 h3
  have e0 : slx true ([] : List (List D)) = .nils := rfl
  simp only [List.map_nil, e0] at k1
  refine start hC (nf := N424_law30_SteadyMost) rfl rfl ?_
  simp [N424_law30_SteadyMost]
  refine callW_of k0 (.inl rfl) ?_
  simp
  refine callW_of k1 (.inl rfl) ?_
  cases hla : large30 ns ls ss 0
  rotate_left
  · simp [hla]
    exact indW_of (by decide +kernel)
  have hn12 : ns.length ≤ 12 := by
    unfold large30 at hla
    simp only [Bool.or_eq_false_iff, decide_eq_false_iff_not] at hla
    omega
  simp [hla]
  by_cases hn0 : ns = []
  · simp [hn0]
    exact indW_of (by decide +kernel)
  have hn : 0 < ns.length := by
    cases ns with
    | nil => exact absurd rfl hn0
    | cons x l => simp
  have k2 := rGiven_c hC b1 b2 b false true ns ls ss (List.replicate ns.length ((0, 0) : Sp)) h2 h3 (by simp; omega)
  simp only [if_true, slx_false] at k2
  have hz : (List.replicate ns.length ((0, 0) : Sp)).map knD = List.replicate ns.length [.int .i64 0, .int .i64 0] := by simp [knD]
  rw [hz] at k2
  simp [hn0]
  refine ⟨by omega, ?_⟩
  refine callW_of k2 (.inl rfl) ?_
  generalize hgg : givE ns ls ss (List.replicate ns.length ((0, 0) : Sp)) ns.length = ge at *
  simp
  refine ⟨indW_of (by decide +kernel), ?_⟩
  by_cases hg : ge = 0
  rotate_left
  · simp [hg]
  rw [hg] at hgg
  obtain ⟨ht, hv, hsp, hpe⟩ := givE_ok hgg
  obtain ⟨k, hk⟩ : ∃ k : Nat, u = k := ⟨u.toNat, by omega⟩
  subst hk
  have hkm : k % ns.length < ns.length := Nat.mod_lt _ hn
  have e1 : Int.tmod (k : Int) ns.length = ((k % ns.length : Nat) : Int) := rfl
  have w0 : IntKind.wrap .i64 (k : Int) = k := wrap_i64 rfl (by omega)
  generalize k % ns.length = x at *
  have w1 : IntKind.wrap .i64 (x : Int) = x := wrap_i64 rfl (by omega)
  have hnv : netOk ns ls = true := by simp only [treeN, Bool.and_eq_true] at ht; exact ht.1.1
  have hidx := (netOk_nod hnv hkm).2
  have k3 := Most_c hC hS b1 b2 b ns ls ss ns[x].name h2 hcv
  have hE : MstE ns ls ss ns[x].name = 0 := by
    unfold MstE
    rw [ht, hv, hpe, hidx]
    simp
  have hV : MstV ns ls ss ns[x].name = msA ns.length (edgN ns ls) (cfL ss ls) x 1099511627776 := by
    unfold MstV
    rw [if_pos hE, hidx, Int.toNat_natCast]
  obtain ⟨q, hq⟩ : ∃ q, q = msA ns.length (edgN ns ls) (cfL ss ls) x 1099511627776 := ⟨_, rfl⟩
  obtain ⟨f0, f1, f2, f3⟩ := most_facts ht hv hpe hq
  rw [hV, hE, ← hq] at k3
  simp [hg, w0, e1, w1, hn0, hkm, nodC]
  refine callW_of k3 (.inl rfl) ?_
  simp
  refine ⟨indW_of (by decide +kernel), ?_⟩
  simp [show ¬ q < 0 by omega, show ¬ 1099511627776 < q by omega]
  refine ⟨by omega, ?_⟩
  have hrep : (List.replicate ns.length [D.int .i64 0, D.int .i64 0])[x]? = some [.int .i64 0, .int .i64 0] := by simp [hkm]
  simp [hkm, hrep, oneF_set0]
  have hV1 : List.take ns.length (List.map (fun e => List.map cellV e) (List.map knD (oneF ns.length x q))) = List.map knD (oneF ns.length x q) := by
    rw [oneF_V, List.take_of_length_le (by simp [oneF_len])]
  have hVV : ∀ q' : Int, List.take ns.length (List.map ((fun e => List.map cellV e) ∘ knD) (oneF ns.length x q')) = List.map knD (oneF ns.length x q') := fun q' => by
    rw [← List.map_map, oneF_V, List.take_of_length_le (by simp [oneF_len])]
  have hg1 : givE ns ls ss (oneF ns.length x q) ns.length = 0 := by
    unfold givE
    rw [ht, hv, spsE_of (oneF_len _ _ _) (oneF_rng f0 f1), hpe]; rfl
  have ht2 := ht
  simp only [treeN, Bool.and_eq_true] at ht2
  obtain ⟨_, htf⟩ := ht2
  have hgr := edgN_in hnv
  have hb1 := oneF_big (netOk_len hnv).1 hgr htf hkm f0 f1
  have k4 := OverloadedG_c hC hS b1 b2 b false ns ls ss (oneF ns.length x q) h2 (by rw [oneF_len]; exact h1) hcv
  have hO1 : OvE ns ls ss (oneF ns.length x q) = 0 := by
    unfold OvE flowsE
    rw [if_pos hg1, hb1]; rfl
  have hemp : ∀ (f : Sp → Int), (∀ y : Int, f (y, y) = y) → ovT ss f ls (flowsF ns.length (edgN ns ls) (oneF ns.length x q)) ls.length = [] := fun f hf => by
    cases e : ovT ss f ls (flowsF ns.length (edgN ns ls) (oneF ns.length x q)) ls.length with
    | nil => rfl
    | cons z r =>
      have hz : z ∈ ovT ss f ls (flowsF ns.length (edgN ns ls) (oneF ns.length x q)) ls.length := by rw [e]; simp
      obtain ⟨i, hi, hup, hlt, _⟩ := (one_ov ht hv hpe hkm f0 f1 f hf).1 hz
      have := f2 i hi hup
      omega
  unfold OvV at k4
  rw [hO1, if_pos rfl, if_pos rfl, hemp (·.1) (fun _ => rfl), hemp (·.2) (fun _ => rfl)] at k4
  simp only [slx_false, strR, List.map_nil] at k4
  simp [oneF_len, hVV]
  refine callGW_of k4 ?_
  simp
  by_cases hqm : q = 1099511627776
  · simp [hqm]
  have wq : IntKind.wrap .i64 (q + 1) = q + 1 := wrap_i64 rfl (by omega)
  have hgx : (List.map knD (oneF ns.length x q))[x]? = some [.int .i64 q, .int .i64 q] := by simp [oneF, hkm, knD]
  simp [hqm, wq, hkm, hgx, oneF_len]
  have hT : List.take ns.length (List.map knD (oneF ns.length x (q + 1))) = List.map knD (oneF ns.length x (q + 1)) := List.take_of_length_le (by simp [oneF_len])
  simp only [knD_drop, knD_dropV, knD_mapV, oneF_set, knD_len, hT]
  refine ⟨Nat.le_refl _, ?_⟩
  have f0' : 0 ≤ q + 1 := by omega
  have f1' : q + 1 ≤ 1099511627776 := by omega
  have hg2 : givE ns ls ss (oneF ns.length x (q + 1)) ns.length = 0 := by
    unfold givE
    rw [ht, hv, spsE_of (oneF_len _ _ _) (oneF_rng f0' f1'), hpe]; rfl
  have hb2 := oneF_big (netOk_len hnv).1 hgr htf hkm f0' f1'
  have k5 := OverloadedG_c hC hS b1 b2 b false ns ls ss (oneF ns.length x (q + 1)) h2 (by rw [oneF_len]; exact h1) hcv
  have hO2 : OvE ns ls ss (oneF ns.length x (q + 1)) = 0 := by
    unfold OvE flowsE
    rw [if_pos hg2, hb2]; rfl
  have hmem := fun z => one_ov ht hv hpe hkm f0' f1' (·.1) (fun _ => rfl) (x := z)
  unfold OvV at k5
  rw [hO2, if_pos rfl, if_pos rfl] at k5
  simp only [slx_false] at k5
  have hal := ovT_len ss (·.1) ls (flowsF ns.length (edgN ns ls) (oneF ns.length x (q + 1))) ls.length
  generalize ovT ss (·.1) ls (flowsF ns.length (edgN ns ls) (oneF ns.length x (q + 1))) ls.length = A at *
  generalize ovT ss (·.2) ls (flowsF ns.length (edgN ns ls) (oneF ns.length x (q + 1))) ls.length = B at *
  have hne : A.length ≠ 0 := fun h => by
    rcases f3 with f3 | ⟨i, hi, hup, f3⟩
    · exact hqm f3
    · have := (hmem ls[i].name).2 ⟨i, hi, hup, by omega, rfl⟩
      rw [List.length_eq_zero_iff.1 h] at this
      cases this
  refine callGW_of k5 ?_
  have hne' : A ≠ [] := fun h => hne (by rw [h]; rfl)
  simp [strR_len, hne, hne']
  have q1 := eqStr_c hC false false [ns[x].name] [ns[x].name] (by simp) (by simp)
  simp only [slx_false, strR, List.map_cons, List.map_nil, decide_true] at q1
  refine loop_of Nat (fun j => [(3, .ptr [slx b1 (ns.map nodC), slx b2 (ls.map lnkC)]), (7, .int .i64 x), (10, .ref (.r 10160) 0 ns.length), (10160, .blk 2 ((oneF ns.length x (q + 1)).map knD)), (122, .sl (strR A)), (123, .int .i64 A.length), (124, .int .i64 j)]) (fun j => j ≤ A.length) (fun j => A.length - j) 0 (by simp) (by simp) ?_
  rintro j hj
  simp
  refine brB_of (fun h => ?_) (fun h => ?_) <;> simp [h] <;> simp at h
  have hls400 := (netOk_len hnv).2
  have hw : IntKind.wrap .i64 ((j : Int) + 1) = ((j + 1 : Nat) : Int) := wrap_i64 (by omega) (by omega)
  obtain ⟨i, hi, hup, _, hnm⟩ := (hmem A[j]).1 (List.getElem_mem h)
  obtain ⟨s1, s2⟩ := one_share ht hkm hi (show 0 < q + 1 by omega) f1' hup
  have k6 := ShareG_c hC hS b1 b2 false ns ls (oneF ns.length x (q + 1)) ls[i].name (by rw [oneF_len]; exact h1) h2 hcv
  rw [s1, s2, hnm] at k6
  simp only [slx_false, strR, List.map_cons, List.map_nil] at k6
  have hgj : (strR A)[j]? = some [.str A[j]] := by simp [strR, h]
  simp [idxW_some hgj, hgj, strR_len, h, oneF_len, knD_mapV, hT]
  refine callGW_of k6 ?_
  simp [hkm, nodC]
  refine callW_of q1 (.inl rfl) ?_
  simp [hw]
  exact ⟨j + 1, by omega, by omega, by omega⟩
end Go.Gv
