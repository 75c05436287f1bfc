/-
  Texts of the proof: GvI, GvJ.
-/
import Derived.Test.YtbenilopabpjnaaGreatX3
import Derived.Orders
set_option linter.all false
namespace Go.Gv
open Go.RowKit
def opdSlots : Opd → List Nat
  | .t s => [s]
  | .c _ => []
def gSlot : Option (Nat × Bool) → List Nat
  | some (s, _) => [s]
  | none => []
def rdS (n : NOper) : List Nat := (opdsOf n.op).flatMap opdSlots ++ gSlot n.guard
def opsN : NOp → List Opd
  | .mov _ => []
  | .nck _ => []
  | .pick _ _ _ => []
  | .bin _ _ _ => []
  | .un _ _ => []
  | .conv _ _ => []
  | .fld _ _ _ _ => []
  | .ext _ _ => []
  | .fad _ _ => []
  | .ld _ _ _ => []
  | .mk _ _ => []
  | .bld _ _ => []
  | .boxF _ => []
  | .blsF _ _ _ _ => []
  | .len _ => []
  | .iadA _ _ _ _ => []
  | o => opdsOf o
def ldN : NOp → List Opd
  | .ld _ _ x => [x]
  | _ => []
def rdR (f : Nat → D) (n : NOper) : List Nat := ((opsN n.op).flatMap fun x => mroots (vd f x)) ++ ((ldN n.op).flatMap fun x => mroots1 (vd f x))
def mnR (f : Nat → D) (n : NOper) : List Nat := (opdsOf n.op).flatMap fun x => mroots (vd f x)
def encR (f : Nat → D) (n : NOper) : List Nat := (rdS n ++ rdR f n).map (2 * ·) ++ (mnR f n).map (2 * · + 1)
def wrK (ws : List (Nat × D)) (ks : List (Nat × Bool)) : List Nat := (ws.map fun p => 2 * p.1) ++ ks.map fun k => 2 * k.1 + 1
def isAny : D → Bool
  | .any => true
  | _ => false
def chk (f : Nat → D) (n : NOper) : Bool := ((rdS n).all fun s => !isAny (f s)) && (rdR f n).all fun b => isB (f b)
def wOk (R : List Nat) (ws : List (Nat × D)) (ks : List (Nat × Bool)) : Bool :=
  (ks.all fun k => (ws.map (·.1)).contains k.1) && ws.all fun p => (mroots p.2).all fun b => R.contains (2 * b + 1) || (ws.map (·.1)).contains b
def apartL (x : List Nat) (r w : List Nat) : Bool := x.all fun k => !r.contains k && !w.contains k
def indOk (hs : List Nat) (rw : List (List Nat × List Nat)) : Bool :=
  rw.zipIdx.all fun p => rw.zipIdx.all fun q => !decide (p.2 < q.2) || (hs.getD q.2 0).testBit p.2 || (apartL p.1.2 q.1.1 q.1.2 && apartL q.1.2 p.1.1 p.1.2)
def dstL : Option Nat → List Nat
  | some t => [2 * t]
  | none => []
def wpNd (C : Nat → List D → D → List D → Prop) (hs : List Nat) (K : Env → Prop) : List NOper → Env → List (List Nat × List Nat) → Prop
  | [], e, acc => indOk hs acc.reverse = true ∧ K e
  | o :: os, e, acc => chk (look e) o = true ∧ match o.guard with
    | none => resX C (look e) o.dst (fun ws ks => wOk (encR (look e) o) ws ks = true ∧ wpNd C hs K os (ws ++ killE ks e) ((encR (look e) o, wrK ws ks) :: acc)) o.op
    | some (s, want) => match look e s with
      | .bool b => (b = want → resX C (look e) o.dst (fun ws ks => wOk (encR (look e) o) ws ks = true ∧ wpNd C hs K os (ws ++ killE ks e) ((encR (look e) o, wrK ws ks) :: acc)) o.op) ∧
          (b = !want → skipE e o.dst fun e' => wpNd C hs K os e' ((encR (look e) o, dstL o.dst) :: acc))
      | .tup [] => skipE e o.dst fun e' => wpNd C hs K os e' ((encR (look e) o, dstL o.dst) :: acc)
      | _ => False
def wsOf (n : NOper) : Option (List (Nat × D) × List (Nat × Bool)) → List (Nat × D)
  | some (ws, _) => ws
  | none => match n.dst with
    | some t => [(t, .tup [])]
    | none => []
def ksOf : Option (List (Nat × D) × List (Nat × Bool)) → List (Nat × Bool)
  | some (_, ks) => ks
  | none => []
theorem effX_eq (n : NOper) (x : Option (List (Nat × D) × List (Nat × Bool))) (f : Nat → D) : effX n x f = eff (wsOf n x) (ksOf x) f := by
  cases x with
  | some y => rfl
  | none =>
    unfold effX wsOf ksOf
    cases n.dst with
    | some t => rfl
    | none => exact (eff_nil f).symm
abbrev TStep := NOper × Option (List (Nat × D) × List (Nat × Bool)) × (List Nat × List Nat)
def Tr (C : Nat → List D → D → List D → Prop) : List TStep → (Nat → D) → (Nat → D) → Prop
  | [], f, f' => f' = f
  | (n, x, rd) :: ts, f, f' => StepX C n f x ∧ chk f n = true ∧ wOk (encR f n) (wsOf n x) (ksOf x) = true ∧ rd = (rdS n ++ rdR f n, mnR f n) ∧ Tr C ts (eff (wsOf n x) (ksOf x) f) f'
section
variable {C : Nat → List D → D → List D → Prop}
theorem tr_of {hs : List Nat} {K : Env → Prop} : ∀ (ns : List NOper) (e : Env) (acc : List (List Nat × List Nat)), wpNd C hs K ns e acc → ∃ (ts : List TStep) (e' : Env), ts.map (·.1) = ns ∧ Tr C ts (look e) (look e') ∧ indOk hs (acc.reverse ++ ts.map fun t => (t.2.2.1.map (2 * ·) ++ t.2.2.2.map (2 * · + 1), wrK (wsOf t.1 t.2.1) (ksOf t.2.1))) = true ∧ K e'
  | [], e, acc, h => ⟨[], e, rfl, rfl, by simpa using h.1, h.2⟩
  | n :: ns, e, acc, h => by
    obtain ⟨h0, h⟩ := h
    have fin : ∀ (x : Option (List (Nat × D) × List (Nat × Bool))) (e1 : Env), StepX C n (look e) x → wOk (encR (look e) n) (wsOf n x) (ksOf x) = true → look e1 = eff (wsOf n x) (ksOf x) (look e) → wpNd C hs K ns e1 ((encR (look e) n, wrK (wsOf n x) (ksOf x)) :: acc) →
        ∃ (ts : List TStep) (e' : Env), ts.map (·.1) = n :: ns ∧ Tr C ts (look e) (look e') ∧ indOk hs (acc.reverse ++ ts.map fun t => (t.2.2.1.map (2 * ·) ++ t.2.2.2.map (2 * · + 1), wrK (wsOf t.1 t.2.1) (ksOf t.2.1))) = true ∧ K e' := by
      intro x e1 h1 h2 h3 h4
      obtain ⟨ts, e', g1, g2, g3, g4⟩ := tr_of ns e1 _ h4
      refine ⟨(n, x, rdS n ++ rdR (look e) n, mnR (look e) n) :: ts, e', by simp [g1], ⟨h1, h0, h2, rfl, by rw [← h3]; exact g2⟩, ?_, g4⟩
      simpa [encR] using g3
    have run : (∀ s b, n.guard = some (s, b) → look e s = .bool b) → resX C (look e) n.dst (fun ws ks => wOk (encR (look e) n) ws ks = true ∧ wpNd C hs K ns (ws ++ killE ks e) ((encR (look e) n, wrK ws ks) :: acc)) n.op →
        ∃ (ts : List TStep) (e' : Env), ts.map (·.1) = n :: ns ∧ Tr C ts (look e) (look e') ∧ indOk hs (acc.reverse ++ ts.map fun t => (t.2.2.1.map (2 * ·) ++ t.2.2.2.map (2 * · + 1), wrK (wsOf t.1 t.2.1) (ksOf t.2.1))) = true ∧ K e' := by
      intro hg h1
      obtain ⟨ws, ks, ⟨h2, h3⟩, h4⟩ := resX_one h1
      exact fin (some (ws, ks)) _ ⟨hg, h4 _ ⟨rfl, rfl⟩⟩ h2 (look_eff ws ks e) h3
    have skp : ∀ s want, n.guard = some (s, want) → Skp want (look e s) → skipE e n.dst (fun e' => wpNd C hs K ns e' ((encR (look e) n, dstL n.dst) :: acc)) →
        ∃ (ts : List TStep) (e' : Env), ts.map (·.1) = n :: ns ∧ Tr C ts (look e) (look e') ∧ indOk hs (acc.reverse ++ ts.map fun t => (t.2.2.1.map (2 * ·) ++ t.2.2.2.map (2 * · + 1), wrK (wsOf t.1 t.2.1) (ksOf t.2.1))) = true ∧ K e' := by
      intro s want hg hb h1
      unfold skipE at h1
      split at h1
      · rename_i hd
        refine fin none e ⟨s, want, hg, hb⟩ (by simp [wOk, wsOf, ksOf, hd]) (by simp [wsOf, ksOf, hd, eff_nil]) ?_
        simpa [wsOf, ksOf, wrK, hd, dstL] using h1
      · rename_i t hd
        refine fin none ((t, .tup []) :: e) ⟨s, want, hg, hb⟩ (by simp [wOk, wsOf, ksOf, hd, mroots, mroots1]) ?_ ?_
        · have := look_eff [(t, .tup [])] [] e
          simp only [killE, if_true] at this
          simpa [wsOf, ksOf, hd] using this
        · simpa [wsOf, ksOf, wrK, hd, dstL] using h1
    split at h
    · rename_i hg
      exact run (fun s b e' => (by rw [hg] at e'; cases e')) h
    · rename_i s want hg
      split at h
      · rename_i b hb
        by_cases hbw : b = want
        · subst hbw
          exact run (fun s' b' e' => (by rw [hg] at e'; cases e'; exact hb)) (h.1 rfl)
        · have hb' : b = !want := by cases b <;> cases want <;> simp_all
          have h1 := h.2 hb'
          rw [hb'] at hb
          exact skp s want hg (.inl hb) h1
      · rename_i hb
        exact skp s want hg (.inr hb) h
      · exact h.elim
def famOf (hs : List Nat) (ts : List TStep) (f : Nat → D) : Fam where
  n := ts.length
  ws i := match ts[i]? with
    | some t => wsOf t.1 t.2.1
    | none => []
  ks i := match ts[i]? with
    | some t => ksOf t.2.1
    | none => []
  rd i := match ts[i]? with
    | some t => t.2.2.1
    | none => []
  mn i := match ts[i]? with
    | some t => t.2.2.2
    | none => []
  bef j i := (hs.getD j 0).testBit i
  f0 := f
theorem fam_shift (hs : List Nat) (t : TStep) (ts : List TStep) (f : Nat → D) : ∀ i, (famOf hs (t :: ts) f).St (i + 1) = (famOf hs ts (eff (wsOf t.1 t.2.1) (ksOf t.2.1) f)).St i
  | 0 => by simp [Fam.St, Fam.G, Fam.E, famOf]
  | i + 1 => by
    have ih := fam_shift hs t ts f i
    have e1 : ∀ (A : Fam) (m : Nat), A.St (m + 1) = A.E m (A.St m) := fun A m => by simp [Fam.St, Fam.G]
    rw [e1, ih, e1]
    simp [Fam.E, famOf]
theorem tr_spec (hs : List Nat) : ∀ (ts : List TStep) (f f' : Nat → D), Tr C ts f f' → f' = (famOf hs ts f).St ts.length ∧ ∀ (i : Nat) (t : TStep), ts[i]? = some t → StepX C t.1 ((famOf hs ts f).St i) t.2.1 ∧ chk ((famOf hs ts f).St i) t.1 = true ∧ wOk (t.2.2.1.map (2 * ·) ++ t.2.2.2.map (2 * · + 1)) (wsOf t.1 t.2.1) (ksOf t.2.1) = true ∧ t.2.2 = (rdS t.1 ++ rdR ((famOf hs ts f).St i) t.1, mnR ((famOf hs ts f).St i) t.1)
  | [], f, f', h => ⟨h, fun i t h => by simp at h⟩
  | (n, x, rd) :: ts, f, f', h => by
    obtain ⟨h1, h2, h3, rfl, h4⟩ := h
    obtain ⟨g1, g2⟩ := tr_spec hs ts _ f' h4
    refine ⟨by rw [List.length_cons, fam_shift]; exact g1, fun i t hi => ?_⟩
    cases i with
    | zero => simp at hi; subst hi; exact ⟨h1, h2, by simpa [encR] using h3, rfl⟩
    | succ i => rw [fam_shift]; exact g2 i t (by simpa using hi)
theorem fam_ok {hs : List Nat} {ts : List TStep} {f f' : Nat → D} (h : Tr C ts f f') (hi : indOk hs (ts.map fun t => (t.2.2.1.map (2 * ·) ++ t.2.2.2.map (2 * · + 1), wrK (wsOf t.1 t.2.1) (ksOf t.2.1))) = true) : (famOf hs ts f).Ok := by
  obtain ⟨_, hs'⟩ := tr_spec hs ts f f' h
  have get : ∀ i, i < ts.length → ∃ t, ts[i]? = some t := fun i hi => ⟨_, List.getElem?_eq_getElem hi⟩
  refine ⟨fun i hn k hk => ?_, fun i hn p hp b all hb => ?_, fun i hn k hk b all hb => ?_, fun i hn k hk => ?_, fun i j hij hn => ?_⟩
  · obtain ⟨t, ht⟩ := get i hn
    obtain ⟨_, _, h3, _⟩ := hs' i t ht
    simp only [famOf, ht] at hk
    simp only [Fam.W, famOf, ht]
    simp only [wOk, Bool.and_eq_true, List.all_eq_true] at h3
    exact List.contains_iff_mem.1 (h3.1 k hk)
  · obtain ⟨t, ht⟩ := get i hn
    obtain ⟨_, _, h3, _⟩ := hs' i t ht
    simp only [famOf, ht] at hp
    simp only [Fam.W, famOf, ht]
    simp only [wOk, Bool.and_eq_true, List.all_eq_true, Bool.or_eq_true] at h3
    rcases h3.2 p hp b (ment_roots hb) with h4 | h4
    · left
      have h5 := List.contains_iff_mem.1 h4
      rcases List.mem_append.1 h5 with h5 | h5
      · obtain ⟨x, _, h6⟩ := List.mem_map.1 h5
        omega
      · obtain ⟨x, h7, h6⟩ := List.mem_map.1 h5
        have : x = b := by omega
        subst this; exact h7
    · exact .inr (List.contains_iff_mem.1 h4)
  · obtain ⟨t, ht⟩ := get i hn
    obtain ⟨h1, h2, _, h4⟩ := hs' i t ht
    simp only [famOf, ht] at hk ⊢
    rw [h4] at hk ⊢
    simp only [chk, Bool.and_eq_true, List.all_eq_true] at h2
    rcases List.mem_append.1 hk with h5 | h5
    · simp only [rdS] at h5
      rcases List.mem_append.1 h5 with h6 | h6
      · obtain ⟨x, h7, h8⟩ := List.mem_flatMap.1 h6
        cases x with
        | t s =>
          simp only [opdSlots, List.mem_singleton] at h8
          subst h8
          refine List.mem_flatMap.2 ⟨_, h7, ?_⟩
          exact ment_roots hb
        | c d => simp [opdSlots] at h8
      · -- the guard's slot
        have : (∃ bb, (famOf hs ts f).St i k = .bool bb) ∨ (famOf hs ts f).St i k = .tup [] := by
          cases hg : t.1.guard with
          | none => rw [hg] at h6; simp [gSlot] at h6
          | some q =>
            obtain ⟨s, want⟩ := q
            rw [hg] at h6
            simp only [gSlot, List.mem_singleton] at h6
            subst h6
            unfold StepX at h1
            split at h1
            · exact .inl ⟨want, h1.1 k want hg⟩
            · obtain ⟨s', b', h7, h8⟩ := h1
              rw [hg] at h7; cases h7
              exact h8.imp (fun h8 => ⟨_, h8⟩) id
        simp only [famOf] at this hb
        rcases this with ⟨bb, hbb⟩ | hbb <;> rw [hbb] at hb <;> simp [ment, ment1] at hb
    · have h6 := h2.2 k h5
      simp only [famOf] at h6 hb
      have h7 : ∀ d : D, isB d = true → ment b all d = false := fun d hd => by cases d <;> first | rfl | (simp [isB] at hd)
      rw [h7 _ h6] at hb; cases hb
  · obtain ⟨t, ht⟩ := get i hn
    obtain ⟨h1, h2, _, h4⟩ := hs' i t ht
    simp only [famOf, ht] at hk ⊢
    rw [h4] at hk
    simp only [chk, Bool.and_eq_true, List.all_eq_true] at h2
    rcases List.mem_append.1 hk with h5 | h5
    · have := h2.1 k h5
      intro e
      simp only [famOf] at this
      rw [e] at this
      simp [isAny] at this
    · have := h2.2 k h5
      intro e
      simp only [famOf] at this
      rw [e] at this
      simp [isB] at this
  · obtain ⟨t, ht⟩ := get i (Nat.lt_trans hij hn)
    obtain ⟨u, hu⟩ := get j hn
    simp only [indOk, List.all_eq_true] at hi
    have h1 := hi ((t.2.2.1.map (2 * ·) ++ t.2.2.2.map (2 * · + 1), wrK (wsOf t.1 t.2.1) (ksOf t.2.1)), i) (List.mem_zipIdx_iff_getElem?.2 (by simp [ht])) ((u.2.2.1.map (2 * ·) ++ u.2.2.2.map (2 * · + 1), wrK (wsOf u.1 u.2.1) (ksOf u.2.1)), j) (List.mem_zipIdx_iff_getElem?.2 (by simp [hu]))
    simp only [Bool.or_eq_true, Bool.not_eq_true', decide_eq_false_iff_not, Bool.and_eq_true] at h1
    rcases h1 with (h1 | h1) | h1
    · exact absurd hij h1
    · exact .inl h1
    · right
      simp only [apartL, List.all_eq_true, Bool.and_eq_true, Bool.not_eq_true'] at h1
      have nm : ∀ {l : List Nat} {k : Nat}, l.contains k = false → k ∉ l := fun h hm => by
        have := List.contains_iff_mem.2 hm
        rw [h] at this; cases this
      have one : ∀ (a b : TStep) (x y : Nat), ts[x]? = some a → ts[y]? = some b → (∀ k ∈ wrK (wsOf a.1 a.2.1) (ksOf a.2.1), (b.2.2.1.map (2 * ·) ++ b.2.2.2.map (2 * · + 1)).contains k = false ∧ (wrK (wsOf b.1 b.2.1) (ksOf b.2.1)).contains k = false) → (famOf hs ts f).Apart x y := by
        intro a b x y ha hb hab
        refine ⟨fun k hk => ?_, fun k hk hm => ?_⟩
        · simp only [Fam.W, famOf, ha] at hk
          obtain ⟨p, hp, rfl⟩ := List.mem_map.1 hk
          obtain ⟨h2, h3⟩ := hab (2 * p.1) (List.mem_append.2 (.inl (List.mem_map.2 ⟨p, hp, rfl⟩)))
          refine ⟨fun hr => nm h2 (List.mem_append.2 (.inl (List.mem_map.2 ⟨_, ?_, rfl⟩))), fun hw => nm h3 (List.mem_append.2 (.inl ?_))⟩
          · simp only [famOf, hb] at hr; exact hr
          · simp only [Fam.W, famOf, hb] at hw
            obtain ⟨q, hq, e⟩ := List.mem_map.1 hw
            exact List.mem_map.2 ⟨q, hq, by rw [e]⟩
        · simp only [famOf, ha] at hk
          obtain ⟨h2, _⟩ := hab (2 * k.1 + 1) (List.mem_append.2 (.inr (List.mem_map.2 ⟨k, hk, rfl⟩)))
          refine nm h2 (List.mem_append.2 (.inr (List.mem_map.2 ⟨_, ?_, rfl⟩)))
          simp only [famOf, hb] at hm; exact hm
      exact ⟨one t u i j ht hu h1.1, one u t j i hu ht h1.2⟩
end
def uH (ops : Array Oper) (H : Array Nat) (j : Nat) : Nat := match ops[j]? with
  | some o => o.after.toList.foldl (fun s e => if Region.binds .any e then s ||| 2 ^ e.on ||| H.getD e.on 0 else s) 0
  | none => 0
def edgesOk (ops : Array Oper) (j : Nat) : Bool := match ops[j]? with
  | some o => o.after.toList.all fun e => !Region.binds .any e || decide (e.on < j)
  | none => true
theorem foldl_bits (H : Array Nat) (i : Nat) : ∀ (l : List Edge) (s : Nat), (l.foldl (fun s e => if Region.binds .any e then s ||| 2 ^ e.on ||| H.getD e.on 0 else s) s).testBit i = true →
    s.testBit i = true ∨ ∃ e ∈ l, Region.binds .any e = true ∧ (i = e.on ∨ (H.getD e.on 0).testBit i = true)
  | [], s, h => .inl h
  | e :: l, s, h => by
    simp only [List.foldl_cons] at h
    rcases foldl_bits H i l _ h with h1 | ⟨e', h1, h2⟩
    · split at h1
      · rename_i hb
        simp only [Nat.testBit_or, Bool.or_eq_true, Nat.testBit_two_pow, decide_eq_true_eq] at h1
        rcases h1 with (h1 | h1) | h1
        · exact .inl h1
        · exact .inr ⟨e, by simp, hb, .inl h1.symm⟩
        · exact .inr ⟨e, by simp, hb, .inr h1⟩
      · exact .inl h1
    · exact .inr ⟨e', by simp [h1], h2⟩
theorem uH_bits {ops : Array Oper} {H : Array Nat} {j i : Nat} (h : (uH ops H j).testBit i = true) : ∃ o, ops[j]? = some o ∧ ∃ e ∈ o.after.toList, Region.binds .any e = true ∧ (i = e.on ∨ (H.getD e.on 0).testBit i = true) := by
  unfold uH at h
  split at h
  · rename_i o ho
    rcases foldl_bits H i _ 0 h with h1 | h1
    · simp at h1
    · exact ⟨o, ho, h1⟩
  · simp at h
def drawOk (hs : List Nat) (ops : Array Oper) : Bool := (List.range ops.size).all fun j => hs.getD j 0 == uH ops hs.toArray j && edgesOk ops j
def left (n : Nat) (l : Nat → Bool) : Nat := ((List.range n).filter fun i => !l i).length
theorem filter_lt {p q : Nat → Bool} {j : Nat} (hpq : ∀ i, q i = true → p i = true) (hp : p j = true) (hq : q j = false) : ∀ (l : List Nat), j ∈ l → (l.filter q).length < (l.filter p).length
  | [], h => by simp at h
  | i :: l, h => by
    have hle : (l.filter q).length ≤ (l.filter p).length := by
      clear h
      induction l with
      | nil => simp
      | cons x l ih =>
        simp only [List.filter_cons]
        cases hqx : q x with
        | true => simp [hpq x hqx, ih]
        | false => cases p x <;> simp <;> omega
    by_cases hij : i = j
    · subst hij
      simp [hp, hq]
      omega
    · have := filter_lt hpq hp hq l (by simpa [Ne.symm hij] using h)
      simp only [List.filter_cons]
      cases hqx : q i with
      | true => simp [hpq i hqx, this]
      | false => cases p i <;> simp <;> omega
section
variable {P : Program} {F : Fid} {C : Nat → List D → D → List D → Prop} {nt : Nat} {S : Nat → Prop} {L : Nat → Option Loc} {w0 : World} {M0 : Mem} {f : Nat → D} {M : Mem} {a : Act} {w : World} {Q : Exit → Act → World → Prop}
def lst (listed : Array Bool) : Nat → Bool := fun i => listed.getD i true
theorem mem_ready' {ops : Array Oper} {listed : Array Bool} {i : Nat} : i ∈ Region.ready .any ops listed ↔ i < ops.size ∧ lst listed i = false ∧ ∃ o, ops[i]? = some o ∧ ∀ e ∈ o.after, Region.binds .any e = true → listed.getD e.on false = true := by
  simp only [Region.ready, List.mem_filter, List.mem_range, Bool.and_eq_true, Bool.not_eq_true', lst]
  constructor
  · rintro ⟨h1, h2, h3⟩
    refine ⟨h1, h2, ops[i], Array.getElem?_eq_getElem h1, fun e he hb => ?_⟩
    rw [Array.getElem?_eq_getElem h1] at h3
    simp only [Option.map_some, Option.getD_some, Array.all_eq_true_iff_forall_mem, Bool.or_eq_true, Bool.not_eq_true'] at h3
    rcases h3 e he with h4 | h4
    · rw [hb] at h4; cases h4
    · exact h4
  · rintro ⟨h1, h2, o, h3, h4⟩
    refine ⟨h1, h2, ?_⟩
    rw [h3]
    simp only [Option.map_some, Option.getD_some, Array.all_eq_true_iff_forall_mem, Bool.or_eq_true, Bool.not_eq_true']
    intro e he
    cases hb : Region.binds .any e with
    | false => exact .inl rfl
    | true => exact .inr (h4 e he hb)
theorem getD_arr (hs : List Nat) (j : Nat) : hs.toArray.getD j 0 = hs.getD j 0 := by
  simp [Array.getD_eq_getD_getElem?, List.getD_eq_getElem?_getD]
theorem resX_near {f g : Nat → D} {n : NOper} {dst : Option Nat} {K : List (Nat × D) → List (Nat × Bool) → Prop} (hv : ∀ x ∈ opdsOf n.op, vd g x = vd f x) (hr : ∀ b ∈ rdR f n, g b = f b) (h : resX C f dst K n.op) : resX C g dst K n.op := by
  obtain ⟨d0, o, g0⟩ := n
  simp only at hv h ⊢
  have full : (∀ x ∈ opdsOf o, x ∈ opsN o) → resX C g dst K o := fun hN => resX_local hv (fun x hx b hb => hr b (List.mem_append.2 (.inl (List.mem_flatMap.2 ⟨x, hN x hx, ment_roots hb⟩)))) h
  cases o with
  | mov x => simp only [resX, res, hv x (by simp [opdsOf])] at h ⊢; exact h
  | nck x => simp only [resX, res, hv x (by simp [opdsOf])] at h ⊢; exact h
  | un op x => simp only [resX, res, hv x (by simp [opdsOf])] at h ⊢; exact h
  | conv k x => simp only [resX, res, hv x (by simp [opdsOf])] at h ⊢; exact h
  | fld a b c x => simp only [resX, res, hv x (by simp [opdsOf])] at h ⊢; exact h
  | ext i x => simp only [resX, res, hv x (by simp [opdsOf])] at h ⊢; exact h
  | fad i x => simp only [resX, res, hv x (by simp [opdsOf])] at h ⊢; exact h
  | boxF x => simp only [resX, res, hv x (by simp [opdsOf])] at h ⊢; exact h
  | blsF sz len zs ps =>
    have e : ∀ p ∈ ps, vd g p.2 = vd f p.2 := fun p hp => hv _ (List.mem_map.2 ⟨p, hp, rfl⟩)
    simp only [resX, res] at h ⊢
    rw [fillR_local e]
    exact ⟨fun p hp => by rw [e p hp]; exact h.1 p hp, h.2⟩
  | len x => simp only [resX, res, hv x (by simp [opdsOf])] at h ⊢; exact h
  | pick c x y => simp only [resX, res, hv c (by simp [opdsOf]), hv x (by simp [opdsOf]), hv y (by simp [opdsOf])] at h ⊢; exact h
  | bin op x y => simp only [resX, res, hv x (by simp [opdsOf]), hv y (by simp [opdsOf])] at h ⊢; exact h
  | iadA l s x i => simp only [resX, res, hv x (by simp [opdsOf]), hv i (by simp [opdsOf])] at h ⊢; exact h
  | bld zs ps =>
    have e : ∀ p ∈ ps, vd g p.2.2 = vd f p.2.2 := fun p hp => hv _ (List.mem_map.2 ⟨p, hp, rfl⟩)
    simp only [resX, res] at h ⊢
    obtain ⟨h1, h2, h3⟩ := h
    have e2 : (ps.all fun p => isV (vd g p.2.2)) = (ps.all fun p => isV (vd f p.2.2)) := by
      rw [Bool.eq_iff_iff, List.all_eq_true, List.all_eq_true]
      exact ⟨fun h p hp => by rw [← e p hp]; exact h p hp, fun h p hp => by rw [e p hp]; exact h p hp⟩
    have m1 : (ps.map fun p => (p.1, p.2.1, vd g p.2.2)) = ps.map fun p => (p.1, p.2.1, vd f p.2.2) := List.map_congr_left fun p hp => by rw [e p hp]
    have m2 : (ps.map fun p => (p.1, p.2.1, aggOf (vd g p.2.2))) = ps.map fun p => (p.1, p.2.1, aggOf (vd f p.2.2)) := List.map_congr_left fun p hp => by rw [e p hp]
    rw [e2, m1, m2]
    exact ⟨fun p hp => by rw [e p hp]; exact h1 p hp, h2, h3⟩
  | mk k xs =>
    have e : ∀ x ∈ xs, vd g x = vd f x := fun x hx => hv x hx
    simp only [resX, res] at h ⊢
    obtain ⟨h1, h2, h3⟩ := h
    have e2 : (xs.all fun x => isV (vd g x)) = (xs.all fun x => isV (vd f x)) := by
      rw [Bool.eq_iff_iff, List.all_eq_true, List.all_eq_true]
      exact ⟨fun h p hp => by rw [← e p hp]; exact h p hp, fun h p hp => by rw [e p hp]; exact h p hp⟩
    rw [e2, List.map_congr_left e]
    exact ⟨fun p hp => by rw [e p hp]; exact h1 p hp, h2, h3⟩
  | ld n ag x =>
    have e := hv x (by simp [opdsOf])
    simp only [resX, res, e] at h ⊢
    split at h
    · rename_i p i off ex
      rw [getP_local (p := p) (hr _ (List.mem_append.2 (.inr (List.mem_flatMap.2 ⟨x, by simp [ldN], by rw [ex]; simp [mroots1]⟩))))]
      exact h
    · exact h
    · exact h
    · exact h
  | _ => exact full (fun x hx => hx)
theorem any_order (hC : CSound P F C) (hL : NoL L S) {hs : List Nat} {ops : Array Oper} {ts : List TStep} {f' : Nat → D} (htr : Tr C ts f f') (hok : (famOf hs ts f).Ok) (hlen : ts.length = ops.size) (hb : ∀ j, j < ops.size → hs.getD j 0 = uH ops hs.toArray j) (hed : ∀ (j : Nat) (o : Oper), ops[j]? = some o → ∀ e ∈ o.after, Region.binds .any e = true → e.on < j)
    (hk : ∀ (j : Nat) (t : TStep) (o : Oper), ts[j]? = some t → ops[j]? = some o → nopOk P F nt ops t.1 o = true)
    (hQ : ∀ M a w, SR F nt S L w0 M0 f' M a w → Q .normal a w) : ∀ (fuel : Nat) (listed : Array Bool) (M : Mem) (a : Act) (w : World), listed.size = ops.size → left ops.size (lst listed) ≤ fuel →
      (∀ j, j < ops.size → lst listed j = true → ∀ i, (hs.getD j 0).testBit i = true → i < ops.size ∧ lst listed i = true) → SR F nt S L w0 M0 ((famOf hs ts f).G (lst listed) ts.length) M a w → wpAny P .any ops Q fuel listed a w := by
  obtain ⟨hf', hsp⟩ := tr_spec hs ts f f' htr
  have hall : ∀ (listed : Array Bool), (∀ i, i < ops.size → lst listed i = true) → (famOf hs ts f).G (lst listed) ts.length = f' := by
    intro listed h
    rw [hf']
    unfold Fam.St
    have : ∀ m, m ≤ ts.length → (famOf hs ts f).G (lst listed) m = (famOf hs ts f).G (fun _ => true) m := by
      intro m
      induction m with
      | zero => intro _; rfl
      | succ m ih =>
        intro hm
        simp only [Fam.G]
        rw [h m (by omega), ih (by omega)]
        rfl
    exact this _ (Nat.le_refl _)
  intro fuel
  induction fuel with
  | zero =>
    intro listed M a w hs' hf hcl h
    have hal : ∀ i, i < ops.size → lst listed i = true := by
      intro i hi
      cases hl : lst listed i with
      | true => rfl
      | false =>
        have : i ∈ (List.range ops.size).filter fun i => !lst listed i := by simp [hi, hl]
        have := List.length_pos_of_mem this
        unfold left at hf
        omega
    refine ⟨?_, hQ M a w (by rw [← hall listed hal]; exact h)⟩
    rw [List.eq_nil_iff_forall_not_mem]
    intro i hi
    obtain ⟨h1, h2, _⟩ := mem_ready'.1 hi
    rw [hal i h1] at h2
    cases h2
  | succ fuel ih =>
    intro listed M a w hs' hf hcl h
    refine ⟨fun hr => hQ M a w ?_, fun j hj => ?_⟩
    · have hal : ∀ i, i < ops.size → lst listed i = true := by
        intro i
        induction i using Nat.strongRecOn with
        | _ i ihi =>
          intro hi
          cases hl : lst listed i with
          | true => rfl
          | false =>
            have : i ∈ Region.ready .any ops listed := mem_ready'.2 ⟨hi, hl, ops[i], Array.getElem?_eq_getElem hi, fun e he hb => by
              have h1 := hed i _ (Array.getElem?_eq_getElem hi) e he hb
              have h2 := ihi e.on h1 (by omega)
              unfold lst at h2
              rw [Array.getD_eq_getD_getElem?] at h2 ⊢
              rw [Array.getElem?_eq_getElem (by omega)] at h2 ⊢
              simpa using h2⟩
            rw [hr] at this
            cases this
      rw [← hall listed hal]
      exact h
    · obtain ⟨h1, h2, o, h3, h4⟩ := mem_ready'.1 hj
      obtain ⟨t, ht⟩ : ∃ t, ts[j]? = some t := ⟨ts[j]'(by omega), List.getElem?_eq_getElem (by omega)⟩
      have hanc : ∀ i, (hs.getD j 0).testBit i = true → i < ops.size ∧ lst listed i = true := by
        intro i hi
        rw [hb j h1] at hi
        obtain ⟨o', ho', e, he, hbd, h5⟩ := uH_bits hi
        rw [h3] at ho'
        cases ho'
        have h6 := hed j o h3 e (by simpa using he) hbd
        have h7 := h4 e (by simpa using he) hbd
        have h8 : lst listed e.on = true := by
          unfold lst
          rw [Array.getD_eq_getD_getElem?] at h7 ⊢
          rw [Array.getElem?_eq_getElem (by omega)] at h7 ⊢
          simpa using h7
        rcases h5 with rfl | h5
        · exact ⟨by omega, h8⟩
        · rw [getD_arr] at h5
          exact hcl e.on (by omega) h8 i h5
      have hshut : Shut (famOf hs ts f) (lst listed) := fun j' hj' hl' i _ hbf => (hcl j' (by simpa [famOf, hlen] using hj') hl' i hbf).2
      have hjn : j < (famOf hs ts f).n := by simp only [famOf]; omega
      have hreads := hok.reads hshut hjn h2 (fun i _ hbf => (hanc i hbf).2)
      obtain ⟨g1, g2, g3, g4⟩ := hsp j t ht
      have hrd : (famOf hs ts f).rd j = t.2.2.1 := by simp [famOf, ht]
      have hn : (famOf hs ts f).n = ts.length := rfl
      rw [hrd, hn, g4] at hreads
      have hstep : StepX C t.1 ((famOf hs ts f).G (lst listed) ts.length) t.2.1 := by
        have hv : ∀ x ∈ opdsOf t.1.op, vd ((famOf hs ts f).G (lst listed) ts.length) x = vd ((famOf hs ts f).St j) x := fun x hx => by
          cases x with
          | t s => exact hreads s (List.mem_append.2 (.inl (List.mem_append.2 (.inl (List.mem_flatMap.2 ⟨_, hx, by simp [opdSlots]⟩)))))
          | c d => rfl
        have ha : ∀ b ∈ rdR ((famOf hs ts f).St j) t.1, (famOf hs ts f).G (lst listed) ts.length b = (famOf hs ts f).St j b := fun b hb => hreads b (List.mem_append.2 (.inr hb))
        have hg : ∀ s b, t.1.guard = some (s, b) → (famOf hs ts f).G (lst listed) ts.length s = (famOf hs ts f).St j s := fun s b e =>
          hreads s (List.mem_append.2 (.inl (List.mem_append.2 (.inr (by rw [e]; simp [gSlot])))))
        unfold StepX at g1 ⊢
        split at g1
        · exact ⟨fun s b e => by rw [hg s b e]; exact g1.1 s b e, resX_near hv ha g1.2⟩
        · obtain ⟨s, b, e1, e2⟩ := g1
          exact ⟨s, b, e1, by rw [hg s b e1]; exact e2⟩
      have hlst : ∀ i, lst (listed.setIfInBounds j true) i = (if i = j then true else lst listed i) := by
        intro i
        unfold lst
        rw [Array.getD_eq_getD_getElem?, Array.getD_eq_getD_getElem?, Array.getElem?_setIfInBounds]
        by_cases hij : i = j
        · subst hij; simp [show i < listed.size from by omega]
        · simp [hij, Ne.symm hij]
      have hlst' : ∀ i, i ≠ j → lst (listed.setIfInBounds j true) i = lst listed i := fun i hi => by rw [hlst, if_neg hi]
      have hlstj : lst (listed.setIfInBounds j true) j = true := by rw [hlst, if_pos rfl]
      have hmore : (famOf hs ts f).G (lst (listed.setIfInBounds j true)) ts.length = effX t.1 t.2.1 ((famOf hs ts f).G (lst listed) ts.length) := by
        rw [effX_eq]
        have := hok.more hshut hjn h2 hlstj hlst'
        rw [hn] at this
        rw [this]
        simp [Fam.E, famOf, ht]
      have hfin : ∀ M' a' w', SR F nt S L w0 M0 (effX t.1 t.2.1 ((famOf hs ts f).G (lst listed) ts.length)) M' a' w' → wpAny P .any ops Q fuel (listed.setIfInBounds j true) a' w' := by
        intro M' a' w' h'
        refine ih _ M' a' w' (by simpa using hs') ?_ (fun j' hj' hl' i hi => ?_) (by rw [hmore]; exact h')
        · have : left ops.size (lst (listed.setIfInBounds j true)) < left ops.size (lst listed) := by
            refine filter_lt (j := j) (fun i hi => ?_) (by simp [h2]) (by simp [hlstj]) _ (by simpa using h1)
            by_cases hij : i = j
            · subst hij; simp [h2]
            · rw [hlst' i hij] at hi; exact hi
          omega
        · by_cases hjj : j' = j
          · subst hjj
            obtain ⟨q1, q2⟩ := hanc i hi
            refine ⟨q1, ?_⟩
            rw [hlst]; split
            · rfl
            · exact q2
          · rw [hlst' j' hjj] at hl'
            obtain ⟨q1, q2⟩ := hcl j' hj' hl' i hi
            refine ⟨q1, ?_⟩
            rw [hlst]; split
            · rfl
            · exact q2
      have := stepF hC hL (hk j t o ht h3) h hstep (R := wpAny P .any ops Q fuel (listed.setIfInBounds j true)) hfin (Q := Q)
      unfold wpOp
      rw [h3]
      exact this
theorem region_draw (hC : CSound P F C) (hL : NoL L S) (hm : P.follows .mixedOrders = true) {hs : List Nat} {ops : Array Oper} {ns : List NOper} (hk : regOk P F nt ns ops = true) (hdr : drawOk hs ops = true) {id : Nat} {K : Env → Prop} {e : Env} (h : SR F nt S L w0 M0 (look e) M a w) (hr : wpNd C hs K ns e [])
    (hQ : ∀ e M a w, SR F nt S L w0 M0 (look e) M a w → K e → Q .normal a w) : (Code.region id ops true).wp P Q a w := by
  simp only [regOk, Bool.and_eq_true, beq_iff_eq, List.all_eq_true] at hk
  obtain ⟨ts, e', g1, g2, g3, g4⟩ := tr_of ns e [] hr
  have hlen : ts.length = ops.size := by
    have : ts.length = ns.length := by rw [← g1]; simp
    rw [this]; simpa using hk.1
  have hok := fam_ok g2 (by simpa using g3)
  simp only [drawOk, List.all_eq_true, List.mem_range, Bool.and_eq_true, beq_iff_eq] at hdr
  refine wp_region_any hm (any_order hC hL (hs := hs) g2 hok hlen (fun j hj => (hdr j hj).1) (fun j o ho e he hb => ?_) (fun j t o ht ho => ?_) (fun M a w hs => hQ e' M a w hs g4) _ _ M a _ (by simp) ?_ ?_ ?_)
  · obtain ⟨hj, _⟩ := Array.getElem?_eq_some_iff.1 ho
    have := (hdr j hj).2
    simp only [edgesOk, ho, List.all_eq_true, Bool.or_eq_true, Bool.not_eq_true', decide_eq_true_eq] at this
    rcases this e (by simpa using he) with h5 | h5
    · rw [hb] at h5; cases h5
    · exact h5
  · refine hk.2 (t.1, o) ?_
    rw [List.mem_iff_getElem?]
    refine ⟨j, ?_⟩
    rw [List.getElem?_zip_eq_some]
    refine ⟨?_, by simpa using ho⟩
    rw [← g1]
    simp [ht]
  · have := List.length_filter_le (fun i => !lst (Array.replicate ops.size false) i) (List.range ops.size)
    simpa [left] using this
  · intro j hj hl
    simp [lst, hj] at hl
  · have h0 : ∀ m, m ≤ ts.length → (famOf hs ts (look e)).G (lst (Array.replicate ops.size false)) m = look e := by
      intro m
      induction m with
      | zero => intro _; rfl
      | succ m ih =>
        intro hm
        simp only [Fam.G]
        rw [ih (by omega)]
        have : lst (Array.replicate ops.size false) m = false := by simp [lst, show m < ops.size from by omega]
        rw [this]; rfl
    rw [h0 _ (Nat.le_refl _)]
    exact h.grow (Bel.drew _)
end
end Go.Gv

namespace Go.Gv
open Go.RowKit
inductive NExit where
  | nrm
  | ext (id : Nat)
  | ret
inductive NCode where
  | skip
  | reg (draw : Bool) (hs : List Nat) (keep : List Nat) (ops : List NOper)
  | seq (a b : NCode)
  | cond (c : Opd) (x y : NCode)
  | block (id : Nat) (c : NCode)
  | loop (c : NCode)
  | exit (id : Nat)
  | ret
  deriving Inhabited
def keepS (keep : List Nat) (e : Env) : Env := keep.map fun t => (t, look e t)
def rootsOf (ks : Env) : List Nat := ks.flatMap fun p => mroots p.2
def addR (e : Env) : List Nat → Env → Env
  | [], ks => ks
  | r :: rs, ks => addR e rs (if (ks.map (·.1)).contains r then ks else ks ++ [(r, look e r)])
def prune (keep : List Nat) (e : Env) : Env := addR e (rootsOf (keepS keep e)) (keepS keep e)
def Weak (e : Env) : Env → Prop
  | [] => True
  | (t, d) :: r => look e t = d ∧ Weak e r
def wpN (C : Nat → List D → D → List D → Prop) : NCode → (NExit → Env → Prop) → Env → Prop
  | .skip, Q, e => Q .nrm e
  | .reg dr hs keep ops, Q, e => match dr with
    | false => wpNs C (fun e' => Q .nrm (prune keep e')) ops e
    | true => wpNd C hs (fun e' => Q .nrm (prune keep e')) ops e []
  | .seq x y, Q, e => wpN C x (fun t e' => match t with
    | .nrm => wpN C y Q e'
    | t => Q t e') e
  | .cond c x y, Q, e => match vd (look e) c with
    | .bool b => (b = true → wpN C x Q e) ∧ (b = false → wpN C y Q e)
    | .bb => wpN C x Q e ∧ wpN C y Q e
    | _ => False
  | .block id c, Q, e => wpN C c (fun t e' => match t with
    | .ext i => if i = id then Q .nrm e' else Q (.ext i) e'
    | t => Q t e') e
  | .loop c, Q, e => ∃ (S : Type) (G : S → Env) (I : S → Prop) (m : S → Nat) (s0 : S), I s0 ∧ Weak e (G s0) ∧
      ∀ s, I s → wpN C c (fun t e' => match t with
        | .nrm => ∃ s', I s' ∧ m s' < m s ∧ Weak e' (G s')
        | t => Q t e') (G s)
  | .exit id, Q, e => Q (.ext id) e
  | .ret, Q, e => Q .ret e
structure NFun where
  np : Nat
  nt : Nat
  res : List (Nat × Option (Nat × Bool))
  body : NCode
  deriving Inhabited
def params : Nat → List D → Env
  | _, [] => []
  | k, d :: ds => (k, d) :: params (k + 1) ds
def resD1 (e : Env) : Nat × Option (Nat × Bool) → D
  | (t, none) => dp (look e) (look e t)
  | (t, some (n, ag)) => match look e t with
    | .adr p i off => match getP (look e) p with
      | some (_, es) => pack ag n (((es[i]?.getD []).drop off).map cellV)
      | none => .any
    | _ => .any
def resP (e : Env) : Nat × Option (Nat × Bool) → Prop
  | (t, none) => t < 10000 ∧ dpOk (look e) (look e t)
  | (t, some (n, ag)) => t < 10000 ∧ match look e t with
    | .adr p i off => match getP (look e) p with
      | some (_, es) => off + n ≤ (es[i]?.getD []).length
      | none => False
    | _ => False
def retOk (rs : List (Nat × Option (Nat × Bool))) (d : D) (e : Env) : Prop :=
  (∀ r ∈ rs, resP e r) ∧ match rs with
  | [r] => resD1 e r = d
  | rs => d = .tup (rs.map (resD1 e))
def retOwn (rs : List (Nat × Option (Nat × Bool))) (sz : Nat) (es : List (List D)) (e : Env) : Prop :=
  0 < sz ∧ (∀ r ∈ es, ∀ c ∈ r, isF1 c = true) ∧ match rs with
  | [(t, none)] => t < 10000 ∧ match look e t with
    | .ref (.r b) k n => k = 0 ∧ n = es.length ∧ look e b = .blk sz es
    | .nils => es = []
    | _ => False
  | _ => False
def retNew (rs : List (Nat × Option (Nat × Bool))) (d : D) (e : Env) : Prop :=
  retOk rs d (prune (rs.map (·.1)) e) ∧ ∀ p ∈ prune (rs.map (·.1)) e, flatP p.2 ∧ (p.1 < 10000 → isB p.2 = false)
def Closed (prog : Nat → Option NFun) (C : Nat → List D → D → List D → Prop) : Prop :=
  (∀ g nf ds d, prog g = some nf → ds.length = nf.np → wpN C nf.body (fun t e => (match t with
    | .ext _ => False
    | _ => True) ∧ retOk nf.res d e) (params 0 ds) → C g ds d []) ∧ (∀ g ds d, C g ds d [] → C g ds (forget d) []) ∧
  (∀ g nf ds sz es, prog g = some nf → ds.length = nf.np → wpN C nf.body (fun t e => (match t with
    | .ext _ => False
    | _ => True) ∧ retOwn nf.res sz es e) (params 0 ds) → C g ds .any [.own sz es]) ∧
  ∀ g nf ds d, prog g = some nf → ds.length = nf.np → wpN C nf.body (fun t e => (match t with
    | .ext _ => False
    | _ => True) ∧ retNew nf.res d e) (params 0 ds) → C g ds d [.nilp]
def codeOk (P : Program) (F : Fid) (nt : Nat) : NCode → Code → Bool
  | .skip, .skip => true
  | .reg dr hs _ ns, .region _ ops dr' => dr == dr' && regOk P F nt ns ops && (!dr || drawOk hs ops)
  | .seq x y, .seq x' y' => codeOk P F nt x x' && codeOk P F nt y y'
  | .cond c x y, .cond c' x' y' => opdOk F c c' && codeOk P F nt x x' && codeOk P F nt y y'
  | .block i c, .block i' c' => i == i' && codeOk P F nt c c'
  | .loop c, .loop c' => codeOk P F nt c c'
  | .exit i, .exit i' => i == i'
  | .ret, .ret => true
  | _, _ => false
def resOk (P : Program) : Nat × Option (Nat × Bool) → ResultVar → Bool
  | (t, none), .tmp t' => t == t'
  | (t, some (n, ag)), .cell t' ty => t == t' && tyS P ty n ag
  | _, _ => false
def funOk (P : Program) (F : Fid) (fi : Nat) (nf : NFun) : Bool := match P.funcs[fi]? with
  | some fn => fn.ntmps == nf.nt && fn.params.size + fn.nfree == nf.np && decide (nf.np ≤ nf.nt) && decide (nf.nt ≤ 10000) && nf.res.length == fn.results.toList.length && ((nf.res.zip fn.results.toList).all fun p => resOk P p.1 p.2) &&
    !(fn.name == "runtime.NumGoroutine") && match fn.body with
    | some c => codeOk P F nf.nt nf.body c
    | none => false
  | none => false
section
variable {P : Program} {F : Fid} {C : Nat → List D → D → List D → Prop} {nt : Nat} {S : Nat → Prop} {L : Nat → Option Loc} {w0 : World} {M0 : Mem} {f : Nat → D} {M : Mem} {a : Act} {w : World} {Q : Exit → Act → World → Prop} {ρ : Pa → Loc} {ω : Nat → Option Pa}
theorem look_mem {e : Env} {t : Nat} {d : D} (h : look e t = d) (hd : d ≠ .any) : (t, d) ∈ e := by
  induction e with
  | nil => exact absurd h.symm hd
  | cons p e ih =>
    obtain ⟨s, x⟩ := p
    simp only [look] at h
    split at h
    · rename_i e1; subst e1; subst h; simp
    · simp [ih h]
theorem look_weak {e : Env} : ∀ {e' : Env}, (∀ p ∈ e', look e p.1 = p.2) → ∀ t, look e' t = .any ∨ look e' t = look e t
  | [], _, t => .inl rfl
  | (s, d) :: r, h, t => by
    simp only [look]
    by_cases hs : s = t
    · subst hs
      rw [if_pos rfl]
      exact .inr (h (s, d) (by simp)).symm
    · rw [if_neg hs]
      exact look_weak (fun p hp => h p (by simp [hp])) t
theorem addR_mem {e : Env} : ∀ (rs : List Nat) (ks : Env), (∀ p ∈ ks, look e p.1 = p.2) → ∀ p ∈ addR e rs ks, look e p.1 = p.2
  | [], ks, h => h
  | r :: rs, ks, h => by
    refine addR_mem rs _ ?_
    split
    · exact h
    · intro p hp
      rcases List.mem_append.1 hp with h1 | h1
      · exact h p h1
      · simp at h1; subst h1; rfl
theorem SR.prune {e : Env} (h : SR F nt S L w0 M0 (look e) M a w) (keep : List Nat) : SR F nt S L w0 M0 (look (prune keep e)) M a w :=
  h.weak (look_weak (addR_mem _ _ (fun p hp => by obtain ⟨t, _, rfl⟩ := List.mem_map.1 hp; rfl)))
theorem weak_mem {e : Env} : ∀ {e' : Env}, Weak e e' → ∀ p ∈ e', look e p.1 = p.2
  | [], _, p, hp => by cases hp
  | (s, d) :: r, h, p, hp => by
    rcases List.mem_cons.1 hp with rfl | hp
    · exact h.1
    · exact weak_mem h.2 p hp
theorem SR.weakL {e e' : Env} (h : SR F nt S L w0 M0 (look e) M a w) (hw : Weak e e') : SR F nt S L w0 M0 (look e') M a w := h.weak (look_weak (weak_mem hw))
def QM (F : Fid) (nt : Nat) (S : Nat → Prop) (L : Nat → Option Loc) (w0 : World) (M0 : Mem) (Q : NExit → Env → Prop) : Exit → Act → World → Prop
  | .normal, a, w => ∃ e M, SR F nt S L w0 M0 (look e) M a w ∧ Q .nrm e
  | .exit id, a, w => ∃ e M, SR F nt S L w0 M0 (look e) M a w ∧ Q (.ext id) e
  | .ret, a, w => ∃ e M, SR F nt S L w0 M0 (look e) M a w ∧ Q .ret e
  | _, _, _ => False
theorem wpN_sound (hC : CSound P F C) (hL : NoL L S) (hm : P.follows .mixedOrders = true) : ∀ (nc : NCode) (c : Code), codeOk P F nt nc c = true → ∀ (Q : NExit → Env → Prop) (e : Env) (M : Mem) (a : Act) (w : World),
    SR F nt S L w0 M0 (look e) M a w → wpN C nc Q e → c.wp P (QM F nt S L w0 M0 Q) a w
  | .skip, c, hk, Q, e, M, a, w, h, hw => by
    cases c <;> simp only [codeOk, Bool.false_eq_true] at hk
    exact wp_skip ⟨e, M, h, hw⟩
  | .reg dr hs keep ns, c, hk, Q, e, M, a, w, h, hw => by
    cases c <;> simp only [codeOk, Bool.false_eq_true] at hk
    rename_i id ops dr'
    simp only [Bool.and_eq_true, beq_iff_eq, Bool.or_eq_true, Bool.not_eq_true'] at hk
    obtain ⟨⟨rfl, h1⟩, h2⟩ := hk
    have hQ : ∀ e M a w, SR F nt S L w0 M0 (look e) M a w → Q .nrm (prune keep e) → QM F nt S L w0 M0 Q .normal a w := fun e M a w hs hq => ⟨_, M, hs.prune keep, hq⟩
    cases dr with
    | false => exact region_text hC hL h1 h hw hQ
    | true => exact region_draw hC hL hm h1 (by simpa using h2) h hw hQ
  | .seq x y, c, hk, Q, e, M, a, w, h, hw => by
    cases c <;> simp only [codeOk, Bool.false_eq_true] at hk
    rename_i x' y'
    simp only [Bool.and_eq_true] at hk
    refine wp_seq (wp_mono (wpN_sound hC hL hm x x' hk.1 _ e M a w h hw) ?_)
    intro t a' w' hq
    cases t <;> simp only [QM, Exit.then] at hq ⊢
    · obtain ⟨e', M', h1, h2⟩ := hq
      exact wpN_sound hC hL hm y y' hk.2 Q e' M' a' w' h1 h2
    all_goals exact hq
  | .cond c x y, c', hk, Q, e, M, a, w, h, hw => by
    cases c' <;> simp only [codeOk, Bool.false_eq_true] at hk
    rename_i c' x' y'
    simp only [Bool.and_eq_true] at hk
    simp only [wpN] at hw
    split at hw
    · rename_i b hb
      have h1 := h.opd hk.1.1 (by rw [hb]; rfl)
      rw [hb] at h1
      simp only [RepC] at h1
      cases b with
      | true => exact wp_cond_true h1 (wpN_sound hC hL hm x x' hk.1.2 Q e M a w h (hw.1 rfl))
      | false => exact wp_cond_false h1 (wpN_sound hC hL hm y y' hk.2 Q e M a w h (hw.2 rfl))
    · rename_i hb
      have h1 := h.opd hk.1.1 (by rw [hb]; rfl)
      rw [hb] at h1
      simp only [RepC] at h1
      obtain ⟨b, h1⟩ := h1
      cases b with
      | true => exact wp_cond_true h1 (wpN_sound hC hL hm x x' hk.1.2 Q e M a w h hw.1)
      | false => exact wp_cond_false h1 (wpN_sound hC hL hm y y' hk.2 Q e M a w h hw.2)
    · exact hw.elim
  | .block i x, c, hk, Q, e, M, a, w, h, hw => by
    cases c <;> simp only [codeOk, Bool.false_eq_true] at hk
    rename_i i' x'
    simp only [Bool.and_eq_true, beq_iff_eq] at hk
    obtain ⟨rfl, hk⟩ := hk
    refine wp_block (wp_mono (wpN_sound hC hL hm x x' hk _ e M a w h hw) ?_)
    intro t a' w' hq
    cases t <;> simp only [QM, Exit.inBlock] at hq ⊢
    case exit j =>
      obtain ⟨e', M', h1, h2⟩ := hq
      split at h2
      · rename_i hj; rw [if_pos hj]; exact ⟨e', M', h1, h2⟩
      · rename_i hj; rw [if_neg hj]; exact ⟨e', M', h1, h2⟩
    all_goals exact hq
  | .loop x, c, hk, Q, e, M, a, w, h, hw => by
    cases c <;> simp only [codeOk, Bool.false_eq_true] at hk
    rename_i x'
    obtain ⟨ST, G, I, m, s0, h0, hw0, hround⟩ := hw
    let fits : Act → World → Nat → Prop := fun a w n => ∃ s M, I s ∧ SR F nt S L w0 M0 (look (G s)) M a w ∧ m s = n
    have hmin : ∀ a w n, fits a w n → ∃ k, fits a w k ∧ ∀ k', fits a w k' → k ≤ k' := by
      intro a w n
      induction n using Nat.strongRecOn with
      | _ n ih =>
        intro hn
        by_cases hl : ∃ k, k < n ∧ fits a w k
        · obtain ⟨k, hk, hf⟩ := hl
          exact ih k hk hf
        · exact ⟨n, hn, fun k' hk' => Nat.le_of_not_lt fun hlt => hl ⟨k', hlt, hk'⟩⟩
    let mu : Act → World → Nat := fun a w => Classical.epsilon fun k => fits a w k ∧ ∀ k', fits a w k' → k ≤ k'
    have hmu : ∀ a w n, fits a w n → fits a w (mu a w) ∧ ∀ k', fits a w k' → mu a w ≤ k' := fun a w n hn => Classical.epsilon_spec (hmin a w n hn)
    refine wp_loop (fun a w => ∃ n, fits a w n) mu ⟨_, s0, M, h0, h.weakL hw0, rfl⟩ ?_
    rintro a w ⟨n, hn⟩
    obtain ⟨⟨s, M, hI, hs, hms⟩, _⟩ := hmu a w n hn
    refine wp_mono (wpN_sound hC hL hm x x' hk _ (G s) M a w hs (hround s hI)) ?_
    intro t a' w' hq
    cases t <;> simp only [QM, Exit.then] at hq ⊢
    · obtain ⟨e', M', h1, s', h2, h3, h4⟩ := hq
      have hf : fits a' w' (m s') := ⟨s', M', h2, h1.weakL h4, rfl⟩
      exact ⟨⟨_, hf⟩, Nat.lt_of_le_of_lt ((hmu a' w' _ hf).2 _ hf) (by omega)⟩
    all_goals exact hq
  | .exit i, c, hk, Q, e, M, a, w, h, hw => by
    cases c <;> simp only [codeOk, Bool.false_eq_true] at hk
    rename_i i'
    simp only [beq_iff_eq] at hk
    subst hk
    exact wp_exit ⟨e, M, h, hw⟩
  | .ret, c, hk, Q, e, M, a, w, h, hw => by
    cases c <;> simp only [codeOk, Bool.false_eq_true] at hk
    exact wp_ret ⟨e, M, h, hw⟩
theorem look_params : ∀ (ds : List D) (k t : Nat), look (params k ds) t = if k ≤ t then (ds[t - k]?).getD .any else .any
  | [], k, t => by simp [params, look]
  | d :: ds, k, t => by
    simp only [params, look]
    by_cases h : k = t
    · subst h; simp
    · rw [if_neg h, look_params ds (k + 1) t]
      by_cases hk : k ≤ t
      · rw [if_pos hk, if_pos (by omega)]
        rw [show t - k = (t - (k + 1)) + 1 from by omega]
        simp
      · rw [if_neg hk, if_neg (by omega)]
theorem start_SR {ds : List D} {vs : List Value} (r : RepL F M ds vs) (hh : ∀ p v, M p = some v → w.cell? p = some v) (hl : ds.length ≤ nt) (hnt : nt ≤ 10000) :
    SR F nt (fun _ => False) (fun _ => none) w M (look (params 0 ds)) M { tmps := vs.toArray ++ Array.replicate (nt - vs.toArray.size) undef, defers := [] } w where
  hnt := hnt
  size := by have := r.length; simp; omega
  defers := rfl
  ch := Ch.refl _ _
  holds := hh
  ext := Mem.le_refl _
  fresh p h1 h2 := absurd h1 h2
  own := by
    have big : ∀ b, 10000 ≤ b → look (params 0 ds) b = .any := fun b hb => by
      rw [look_params]
      simp [List.getElem?_eq_none (show ds.length ≤ b by omega)]
    refine ⟨fun _ => default, fun _ => none, ⟨fun t _ => ?_, fun b sz es hb e => ?_, fun b kt et ks vs hb e => ?_, fun k p e => (by cases e), fun k p e => (by cases e), fun p q e => (by cases e), fun b l _ e => (by cases e)⟩⟩
    · by_cases ht : t < ds.length
      · have hd : look (params 0 ds) t = ds[t] := by rw [look_params]; simp [ht]
        obtain ⟨v, hv, rv⟩ := r.get (List.getElem?_eq_getElem ht)
        refine .inr ⟨v, ?_, by rw [hd]; exact RepV.of_pure rv⟩
        have : t < vs.length := by rw [r.length]; exact ht
        simp only [Array.getElem?_append, List.size_toArray, this, if_true, List.getElem?_toArray]
        exact hv
      · exact .inl (by rw [look_params]; simp [ht])
    · rw [big b hb] at e; cases e
    · rw [big b hb] at e; cases e
theorem run_results {e : Env} (h : SR F nt S L w0 M0 (look e) M a w) (hO : Own F L (NewB S w0) (look e) M a w ρ ω) (g : ResultVar → Sem Value) (hg1 : ∀ t, g (.tmp t) = pure (a.tmps.getD t undef)) (hg2 : ∀ x t, g (.cell x t) = (do loadVar t (← asAddr (a.tmps.getD x undef)))) :
    ∀ (rs : List (Nat × Option (Nat × Bool))) (rvs : List ResultVar), rs.length = rvs.length → (∀ p ∈ rs.zip rvs, resOk P p.1 p.2 = true) → (∀ r ∈ rs, resP e r) →
    ∃ vs : List Value, (rvs.mapM g).run P w = .ok vs w ∧ RepL F (Mplus ω M w) (rs.map (resD1 e)) vs
  | [], [], _, _, _ => ⟨[], rfl, by simp [RepL]⟩
  | r :: rs, rv :: rvs, hl, hk, hv => by
    obtain ⟨vs, h1, h2⟩ := run_results h hO g hg1 hg2 rs rvs (by simpa using hl) (fun p hp => hk p (by simp [hp])) (fun r hr => hv r (by simp [hr]))
    have hr := hk (r, rv) (by simp)
    have hvr := hv r (by simp)
    have one : ∃ v, (g rv).run P w = .ok v w ∧ RepC F (Mplus ω M w) (resD1 e r) v := by
      unfold resOk at hr
      split at hr
      · rename_i t t' e1 e2
        simp only [beq_iff_eq] at hr
        subst hr
        simp only at e1
        subst e1
        simp only at e2
        rw [e2, hg1]
        refine ⟨_, rfl, ?_⟩
        simp only [resP] at hvr
        have := hO.opd (x := .t t) (y := .tmp t) (by simp [opdOk, hvr.1])
        simp only [vd] at this
        exact dp_rep hO this hvr.2
      · rename_i t n ag t' ty e1 e2
        simp only [Bool.and_eq_true, beq_iff_eq] at hr
        obtain ⟨rfl, hty⟩ := hr
        simp only at e1
        subst e1
        simp only [resP] at hvr
        obtain ⟨ht, hvr⟩ := hvr
        split at hvr
        · rename_i p i off ex
          split at hvr
          · rename_i sz es hg
            have hx := hO.opd (x := .t t) (y := .tmp t) (by simp [opdOk, ht])
            simp only [vd] at hx
            rw [ex, repV_of rfl] at hx
            simp only [RepR] at hx
            have hpos : 0 < n ∨ n = 0 := by omega
            cases hi : es[i]? with
            | none =>
              rw [hi] at hvr
              simp at hvr
              obtain ⟨rfl, rfl⟩ := hvr
              cases ag with
              | false => have := tyS_one hty; omega
              | true =>
                refine ⟨.agg #[], ?_, ?_⟩
                · have := run_loadAt (P := P) (w := w) hty (a := ⟨(ρ p).blk, (ρ p).base + i * (ρ p).sz + 0, none⟩) (vs := []) (by simp) (by simp)
                  simp only [Instr.loadAt, Instr.sureAddr, Sem.run_bind, Sem.run_pure, Result.andThen_ok] at this
                  simp only at e2
                  have ea : a.tmps.getD t undef = a.eval (.tmp t) := rfl
                  rw [e2, hg2, ea, hx]
                  simp only [asAddr, Sem.run_bind, Sem.run_pure, Result.andThen_ok, this]
                  simp
                · simp [resD1, ex, hg, hi, pack, RepC, RepL]
            | some r =>
              rw [hi] at hvr
              simp only [Option.getD_some] at hvr
              obtain ⟨us, T, hω, h0, hl, g1, g2, g3, g4⟩ := hO.row (getP_big hO hg) hg hi
              rw [h0] at hx
              refine ⟨if ag then .agg ((us.drop ((ρ p).base + i * sz + off)).take n).toArray else (us.drop ((ρ p).base + i * sz + off)).headD undef, ?_, ?_⟩
              · have := run_loadAt (P := P) (w := w) hty (a := ⟨(ρ p).blk, (ρ p).base + i * sz + off, none⟩) (vs := us.drop ((ρ p).base + i * sz + off)) (fun j v hj => by
                  rw [addr_add]
                  rw [List.getElem?_drop] at hj
                  simp [World.cell?, g1, hj]) (by simp; omega)
                simp only [Instr.loadAt, Instr.sureAddr, Sem.run_bind, Sem.run_pure, Result.andThen_ok] at this
                simp only at e2
                have ea : a.tmps.getD t undef = a.eval (.tmp t) := rfl
                rw [e2, hg2, ea, hx]
                simp only [asAddr, Sem.run_bind, Sem.run_pure, Result.andThen_ok, this]
              · simp only [resD1, ex, hg, hi, Option.getD_some]
                have hrl : RepL F (Mplus ω M w) ((r.drop off).map cellV) ((us.drop ((ρ p).base + i * sz + off)).take (sz - off)) := RepL.of_forall' (by simp; omega) (fun j d v e1 e3 => by
                  rw [List.getElem?_map, Option.map_eq_some_iff] at e1
                  obtain ⟨d', e1, rfl⟩ := e1
                  rw [List.getElem?_drop] at e1
                  obtain ⟨u, k1, k2⟩ := g4 _ _ e1
                  rw [List.getElem?_take] at e3
                  split at e3
                  · rw [List.getElem?_drop, Nat.add_assoc] at e3
                    rw [k1] at e3; cases e3
                    exact cellV_rep hO k2
                  · cases e3)
                have hpk := pack_rep hrl ag n
                cases ag with
                | true =>
                  simp only [if_true] at hpk ⊢
                  rw [List.take_take, Nat.min_eq_left (by omega)] at hpk
                  exact hpk
                | false =>
                  have := tyS_one hty
                  simp only [Bool.false_eq_true, if_false] at hpk ⊢
                  have e3 : ((us.drop ((ρ p).base + i * sz + off)).take (sz - off)).headD undef = (us.drop ((ρ p).base + i * sz + off)).headD undef := by
                    cases us.drop ((ρ p).base + i * sz + off) with
                    | nil => simp
                    | cons x xs =>
                      rw [show sz - off = (sz - off - 1) + 1 from by omega]
                      simp
                  rw [e3] at hpk
                  exact hpk
          · exact hvr.elim
        · exact hvr.elim
      · cases hr
    obtain ⟨v, h3, h4⟩ := one
    refine ⟨v :: vs, by simp [List.mapM_cons, h3, h1], ?_⟩
    simp only [List.map_cons, RepL]
    exact ⟨v, vs, rfl, h4, h2⟩
theorem fun_sound (hC : CSound P F C) (hm : P.follows .mixedOrders = true) {fi : Nat} {nf : NFun} (hk : funOk P F fi nf = true) {ds : List D} {d : D} (hl : ds.length = nf.np)
    (hw : wpN C nf.body (fun t e => (match t with
      | .ext _ => False
      | _ => True) ∧ retOk nf.res d e) (params 0 ds)) : RunsD P F fi ds d := by
  intro M w vs hh r
  unfold funOk at hk
  split at hk
  · rename_i fn hfn
    simp only [Bool.and_eq_true, beq_iff_eq, List.all_eq_true, decide_eq_true_eq, Bool.not_eq_true'] at hk
    obtain ⟨⟨⟨⟨⟨⟨⟨h1, h2⟩, h3⟩, h3'⟩, h4⟩, h5⟩, h6⟩, h7⟩ := hk
    split at h7
    · rename_i c hc
      have hs := start_SR (nt := nf.nt) r hh (by omega) h3'
      have hwp := wpN_sound hC ⟨fun _ => rfl, fun _ h => h⟩ hm nf.body c h7 _ _ M _ w hs hw
      refine calls_of_wp hfn hc ?_
      rw [h1]
      refine wp_mono hwp ?_
      have fin : ∀ (a' : Act) (w' : World), (∃ e M', SR F nf.nt (fun _ => False) (fun _ => none) w M (look e) M' a' w' ∧ retOk nf.res d e) → a'.defers = [] ∧ ∃ v, (results fn a'.tmps).run P w' = .ok v w' ∧
          (∃ v' M', Ending.returned v = .returned v' ∧ Bel w w' ∧ M.le M' ∧ (∀ p, M p = none → M' p ≠ none → w.heap.size ≤ p.block) ∧ (∀ p v, M' p = some v → w'.cell? p = some v) ∧ RepC F M' d v') := by
        rintro a' w' ⟨e, M', hs', hr1, hr2⟩
        refine ⟨hs'.defers, ?_⟩
        obtain ⟨ρ, ω, hO⟩ := hs'.own
        obtain ⟨us, k1, k2⟩ := run_results (P := P) hs' hO (fun
          | .tmp t => pure (a'.tmps.getD t undef)
          | .cell x t => do loadVar t (← asAddr (a'.tmps.getD x undef))) (fun _ => rfl) (fun _ _ => rfl) nf.res fn.results.toList h4 h5 hr1
        have hrun : (results fn a'.tmps).run P w' = .ok (if h : us.toArray.size = 1 then us.toArray[0] else .tuple us.toArray) w' := by
          unfold results
          rw [Sem.run_bind, Array.mapM_eq_mapM_toList]
          have k1' : ((fn.results.toList.mapM fun
            | .tmp t => pure (a'.tmps.getD t undef)
            | .cell x t => do loadVar t (← asAddr (a'.tmps.getD x undef)) : Sem (List Value))).run P w' = .ok us w' := k1
          simp only [Sem.run_map]
          erw [k1']
          rfl
        refine ⟨_, hrun, _, Mplus ω M' w', rfl, hs'.ch.below (fun _ _ h => h), Mem.le_trans hs'.ext (Mplus_le hO), fun p hp hq => ?_, Mplus_holds hs'.holds, ?_⟩
        · unfold Mplus at hq
          split at hq
          · rename_i q hq'
            rcases hO.new _ _ hq' with h | h
            · exact h.elim
            · exact h
          · exact hs'.fresh p hp hq
        have hlen := k2.length
        simp only [List.length_map] at hlen
        split at hr2
        · rename_i r1 hres
          rw [hres] at k2 hlen
          simp only [List.map_cons, List.map_nil, RepL] at k2
          obtain ⟨v, r', rfl, k3, rfl⟩ := k2
          rw [← hr2]
          simpa using k3
        · rename_i hne
          have : ¬ us.toArray.size = 1 := by
            intro h'
            have : nf.res.length = 1 := by rw [← hlen]; simpa using h'
            match hq : nf.res, this with
            | [x], _ => exact hne x hq
          rw [dif_neg this, hr2]
          simp only [RepC]
          exact ⟨us, rfl, k2⟩
      intro t a' w' hq
      cases t <;> simp only [QM] at hq
      · obtain ⟨e, M', q1, _, q2⟩ := hq
        exact fin a' w' ⟨e, M', q1, q2⟩
      · obtain ⟨e, M', q1, q2, _⟩ := hq
        exact q2.elim
      · obtain ⟨e, M', q1, _, q2⟩ := hq
        exact fin a' w' ⟨e, M', q1, q2⟩
    · cases h7
  · cases hk
theorem fun_soundG (hC : CSound P F C) (hm : P.follows .mixedOrders = true) {fi : Nat} {nf : NFun} (hk : funOk P F fi nf = true) {ds : List D} {d : D} (hl : ds.length = nf.np)
    (hw : wpN C nf.body (fun t e => (match t with
      | .ext _ => False
      | _ => True) ∧ retNew nf.res d e) (params 0 ds)) : RunsG P F fi ds d := by
  intro M w vs hh r
  unfold funOk at hk
  split at hk
  · rename_i fn hfn
    simp only [Bool.and_eq_true, beq_iff_eq, List.all_eq_true, decide_eq_true_eq, Bool.not_eq_true'] at hk
    obtain ⟨⟨⟨⟨⟨⟨⟨h1, h2⟩, h3⟩, h3'⟩, h4⟩, h5⟩, h6⟩, h7⟩ := hk
    split at h7
    · rename_i c hc
      have hs := start_SR (nt := nf.nt) r hh (by omega) h3'
      have hwp := wpN_sound hC ⟨fun _ => rfl, fun _ h => h⟩ hm nf.body c h7 _ _ M _ w hs hw
      refine calls_of_wp hfn hc ?_
      rw [h1]
      refine wp_mono hwp ?_
      have fin : ∀ (a' : Act) (w' : World), (∃ e M', SR F nf.nt (fun _ => False) (fun _ => none) w M (look e) M' a' w' ∧ retNew nf.res d e) → a'.defers = [] ∧ ∃ v, (results fn a'.tmps).run P w' = .ok v w' ∧
          (∃ v' M2, Ending.returned v = .returned v' ∧ Bel w w' ∧ (∀ p, M2 p ≠ none → w.heap.size ≤ p.block) ∧ (∀ p v, M2 p = some v → w'.cell? p = some v) ∧ RepC F M2 d v') := by
        rintro a' w' ⟨e0, M1, hs0, ⟨hr1, hr2⟩, hfl⟩
        obtain ⟨e, he⟩ : ∃ e, e = prune (nf.res.map (·.1)) e0 := ⟨_, rfl⟩
        rw [← he] at hr1 hr2 hfl
        have hlk : ∀ t, look e t = .any ∨ (t, look e t) ∈ e := fun t => by
          by_cases h : look e t = .any
          · exact .inl h
          · exact .inr (look_mem rfl h)
        have hs1 : SR F nf.nt (fun _ => False) (fun _ => none) w M (look e) M1 a' w' := by rw [he]; exact hs0.prune _
        have hs' := hs1.flat (fun t => by
          rcases hlk t with h | h
          · rw [h]; trivial
          · exact (hfl _ h).1) (fun t ht => by
          rcases hlk t with h | h
          · rw [h]; rfl
          · exact (hfl _ h).2 ht)
        refine ⟨hs'.defers, ?_⟩
        obtain ⟨ρ, ω, hO⟩ := hs'.own
        obtain ⟨us, k1, k2⟩ := run_results (P := P) hs' hO (fun
          | .tmp t => pure (a'.tmps.getD t undef)
          | .cell x t => do loadVar t (← asAddr (a'.tmps.getD x undef))) (fun _ => rfl) (fun _ _ => rfl) nf.res fn.results.toList h4 h5 hr1
        have hrun : (results fn a'.tmps).run P w' = .ok (if h : us.toArray.size = 1 then us.toArray[0] else .tuple us.toArray) w' := by
          unfold results
          rw [Sem.run_bind, Array.mapM_eq_mapM_toList]
          have k1' : ((fn.results.toList.mapM fun
            | .tmp t => pure (a'.tmps.getD t undef)
            | .cell x t => do loadVar t (← asAddr (a'.tmps.getD x undef)) : Sem (List Value))).run P w' = .ok us w' := k1
          simp only [Sem.run_map]
          erw [k1']
          rfl
        refine ⟨_, hrun, _, Mplus ω (fun _ => none) w', rfl, hs'.ch.below (fun _ _ h => h), fun p hq => ?_, Mplus_holds hs'.holds, ?_⟩
        · unfold Mplus at hq
          split at hq
          · rename_i q hq'
            rcases hO.new _ _ hq' with h | h
            · exact h.elim
            · exact h
          · exact absurd rfl hq
        have hlen := k2.length
        simp only [List.length_map] at hlen
        split at hr2
        · rename_i r1 hres
          rw [hres] at k2 hlen
          simp only [List.map_cons, List.map_nil, RepL] at k2
          obtain ⟨v, r', rfl, k3, rfl⟩ := k2
          rw [← hr2]
          simpa using k3
        · rename_i hne
          have : ¬ us.toArray.size = 1 := by
            intro h'
            have : nf.res.length = 1 := by rw [← hlen]; simpa using h'
            match hq : nf.res, this with
            | [x], _ => exact hne x hq
          rw [dif_neg this, hr2]
          simp only [RepC]
          exact ⟨us, rfl, k2⟩
      intro t a' w' hq
      cases t <;> simp only [QM] at hq
      · obtain ⟨e, M', q1, _, q2⟩ := hq
        exact fin a' w' ⟨e, M', q1, q2⟩
      · obtain ⟨e, M', q1, q2, _⟩ := hq
        exact q2.elim
      · obtain ⟨e, M', q1, _, q2⟩ := hq
        exact fin a' w' ⟨e, M', q1, q2⟩
    · cases h7
  · cases hk
theorem fun_soundF (hC : CSound P F C) (hm : P.follows .mixedOrders = true) {fi : Nat} {nf : NFun} (hk : funOk P F fi nf = true) {ds : List D} {sz : Nat} {es : List (List D)} (hl : ds.length = nf.np)
    (hw : wpN C nf.body (fun t e => (match t with
      | .ext _ => False
      | _ => True) ∧ retOwn nf.res sz es e) (params 0 ds)) : RunsF P F fi ds sz es := by
  intro M w vs hh r
  unfold funOk at hk
  split at hk
  · rename_i fn hfn
    simp only [Bool.and_eq_true, beq_iff_eq, List.all_eq_true, decide_eq_true_eq, Bool.not_eq_true'] at hk
    obtain ⟨⟨⟨⟨⟨⟨⟨h1, h2⟩, h3⟩, h3'⟩, h4⟩, h5⟩, h6⟩, h7⟩ := hk
    split at h7
    · rename_i c hc
      have hs := start_SR (nt := nf.nt) r hh (by omega) h3'
      have hwp := wpN_sound hC ⟨fun _ => rfl, fun _ h => h⟩ hm nf.body c h7 _ _ M _ w hs hw
      refine calls_of_wp hfn hc ?_
      rw [h1]
      refine wp_mono hwp ?_
      have fin : ∀ (a' : Act) (w' : World), (∃ e M', SR F nf.nt (fun _ => False) (fun _ => none) w M (look e) M' a' w' ∧ retOwn nf.res sz es e) → a'.defers = [] ∧ ∃ v, (results fn a'.tmps).run P w' = .ok v w' ∧
          ((es = [] ∧ 0 < sz ∧ ∃ A : Option Addr, Ending.returned v = .returned (.slice A 0 0) ∧ Bel w w') ∨ ∃ (b o : Nat) (T : TypeId) (us : List Value) (cap : Nat), Ending.returned v = .returned (.slice (some ⟨b, o, none⟩) es.length cap) ∧ Bel w w' ∧ w.heap.size ≤ b ∧
            w'.heap[b]? = some (.cells us.toArray T (0, 0)) ∧ es.length ≤ cap ∧ (o + cap * sz ≤ us.length ∧ cap ≤ 9223372036854775807) ∧ (∀ e ∈ es, e.length = sz) ∧
            ∀ i r off d, es[i]? = some r → r[off]? = some d → isF1 d = true ∧ ∃ u, us[o + i * sz + off]? = some u ∧ RepC F M d u) := by
        rintro a' w' ⟨e, M', hs', hsz0, hflat, hr⟩
        refine ⟨hs'.defers, ?_⟩
        obtain ⟨ρ, ω, hO⟩ := hs'.own
        split at hr
        · rename_i t hres
          obtain ⟨ht, hr⟩ := hr
          have hrun : (results fn a'.tmps).run P w' = .ok (a'.tmps.getD t undef) w' := by
            rw [hres] at h4 h5
            obtain ⟨rv, hrv⟩ : ∃ rv, fn.results.toList = [rv] := by
              match hq : fn.results.toList, h4 with
              | [x], _ => exact ⟨x, rfl⟩
            have hok := h5 ((t, none), rv) (by rw [hrv]; simp)
            unfold results
            rw [Sem.run_bind, Array.mapM_eq_mapM_toList]
            simp only [Sem.run_map]
            rw [hrv]
            cases rv with
            | tmp t' =>
              simp only [resOk, beq_iff_eq] at hok
              subst hok
              rfl
            | cell t' ty => simp [resOk] at hok
          have hev : a'.tmps.getD t undef = a'.eval (.tmp t) := rfl
          have hx := hO.opd (x := .t t) (y := .tmp t) (by simp [opdOk, ht])
          simp only [vd] at hx
          split at hr
          · rename_i b k n hlk
            obtain ⟨rfl, rfl, hb⟩ := hr
            rw [hlk, repV_of rfl] at hx
            simp only [RepR] at hx
            have hrow := hO.roots b sz es (hO.big hb) hb
            unfold PathR at hrow
            refine ⟨_, hrun, ?_⟩
            rcases hx with ⟨h0, A, hv⟩ | ⟨cap, hv, hcap, hcl, hmc⟩
            · exact .inl ⟨List.eq_nil_of_length_eq_zero h0, hsz0, A, by rw [hev, hv], hs'.ch.below (fun _ _ h => h)⟩
            rcases hrow with hrow | ⟨hω, hrows⟩
            · obtain ⟨v1, v2, v3, v4⟩ := hrow
              have hc0 : cap = 0 := by
                rw [v2, v3] at hcl
                simp only [Nat.zero_add] at hcl
                rcases Nat.eq_zero_or_pos cap with h | h
                · exact h
                · have := Nat.mul_pos h v4; omega
              subst hc0
              have hl0 : es.length = 0 := by rw [v1]; rfl
              exact .inl ⟨v1, hsz0, _, by rw [hev, hv, hl0], hs'.ch.below (fun _ _ h => h)⟩
            obtain ⟨hsz, us, T, g1, g2, g3, g4, g5⟩ := hrows
            refine .inr ⟨(ρ (.r b)).blk, (ρ (.r b)).base, T, us, cap, ?_, hs'.ch.below (fun _ _ h => h), ?_, g1, hcap, ⟨?_, hmc⟩, g4, fun i r off d e1 e2 => ?_⟩
            · rw [hev, hv]
              simp
            · rcases hO.new _ _ hω with h | h
              · exact h.elim
              · exact h
            · rw [g2, ← hsz]
              simpa using hcl
            · obtain ⟨u, k1, k2⟩ := g5 i r off d e1 e2
              have hf1 := hflat r (List.mem_of_getElem? e1) d (List.mem_of_getElem? e2)
              rw [isC1_CellR (isF1_isO hf1)] at k2
              exact ⟨hf1, u, k1, flat1_rep hf1 k2⟩
          · rename_i hlk
            rw [hlk, repV_of rfl] at hx
            simp only [RepR, RepC] at hx
            exact ⟨_, hrun, .inl ⟨hr, hsz0, none, by rw [hev, hx], hs'.ch.below (fun _ _ h => h)⟩⟩
          · exact hr.elim
        · exact hr.elim
      intro t a' w' hq
      cases t <;> simp only [QM] at hq
      · obtain ⟨e, M', q1, _, q2⟩ := hq
        exact fin a' w' ⟨e, M', q1, q2⟩
      · obtain ⟨e, M', q1, q2, _⟩ := hq
        exact q2.elim
      · obtain ⟨e, M', q1, _, q2⟩ := hq
        exact fin a' w' ⟨e, M', q1, q2⟩
    · cases h7
  · cases hk
theorem forget_repL {F : Fid} {M : Mem} : ∀ (ds : List D) (vs : List Value), RepL F M ds vs → RepL F M (ds.map forget1) vs
  | [], vs, x => by simpa only [List.map_nil, RepL] using x
  | d :: ds, vs, x => by
    simp only [List.map_cons, RepL] at x ⊢
    obtain ⟨v, r, e, x1, x2⟩ := x
    refine ⟨v, r, e, ?_, forget_repL ds r x2⟩
    unfold forget1
    split
    · exact x1
    · simp only [RepC]
theorem forget_rep {F : Fid} {M : Mem} {d : D} {v : Value} (h : RepC F M d v) : RepC F M (forget d) v := by
  cases d
  case tup ds =>
    simp only [forget, RepC] at h ⊢
    obtain ⟨vs, e, r⟩ := h
    exact ⟨vs, e, forget_repL ds vs r⟩
  all_goals exact h
def runsC (P : Program) (F : Fid) (g : Nat) (ds : List D) (d : D) : List D → Prop
  | [] => True ∧ ∀ f, F g = some f → RunsD P F f ds d
  | [.own sz es] => True ∧ ∀ f, F g = some f → RunsF P F f ds sz es
  | [.nilp] => True ∧ ∀ f, F g = some f → RunsG P F f ds d
  | [.own sz es', .nilp] => True ∧ ∀ f, F g = some f → match ds with
    | .own sz0 es :: ds' => sz0 = sz ∧ RunsS P F f sz es ds' es'
    | _ => False
  | [.own sz es', .nils] => True ∧ ∀ f, F g = some f → match ds with
    | .own sz0 es :: ds' => sz0 = sz ∧ RunsE P F f sz es ds' es'
    | _ => False
  | [.own sz es', .nils, .nils] => True ∧ ∀ f, F g = some f → match ds with
    | .own sz0 es :: ds' => sz0 = sz ∧ RunsI P F f sz es ds' es'
    | _ => False
  | _ => False
theorem runs_closed (hm : P.follows .mixedOrders = true) {prog : Nat → Option NFun} (hnamed : ∀ g f, F g = some f → named P f = true) (hlaid : laidOutB F.P = true) (hP : P = F.P) (hall : ∀ g f nf, F g = some f → prog g = some nf → funOk P F f nf = true) : CSound P F (runsC P F) ∧ Closed prog (runsC P F) := by
  have hs : CSound P F (runsC P F) := ⟨fun g f ds d hg h => h.2 f hg, fun g f ds sz es hg h => h.2 f hg, fun g f sz es ds es' hg h => (h.2 f hg).2, fun g f sz es ds es' hg h => (h.2 f hg).2, fun g f sz es ds es' hg h => (h.2 f hg).2, fun g f ds d hg h => h.2 f hg, hnamed, hlaid, hP⟩
  refine ⟨hs, fun g nf ds d hp hl hw => ⟨trivial, fun f hf => fun_sound hs hm (hall g f nf hf hp) hl hw⟩, fun g ds d h => ⟨trivial, fun f hf M w vs hh r => ?_⟩, fun g nf ds sz es hp hl hw => ⟨trivial, fun f hf => fun_soundF hs hm (hall g f nf hf hp) hl hw⟩, fun g nf ds d hp hl hw => ⟨trivial, fun f hf => fun_soundG hs hm (hall g f nf hf hp) hl hw⟩⟩
  exact (h.2 f hf M w vs hh r).mono fun e w' ⟨v, M', q1, q2, q3, q4, q5, q6⟩ => ⟨v, M', q1, q2, q3, q4, q5, forget_rep q6⟩
end
end Go.Gv
