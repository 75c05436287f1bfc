/-
  Texts of the proof: GvH, GvI0, GvI, GvJ.
-/
import Derived.Test.YtdnkaiikcpfidaaGreatX3
import Derived.Orders
set_option linter.all false
namespace Go.Gv
open Go.RowKit

def optL : Option Opd → List Opd
  | some x => [x]
  | none => []

/-- The operands. -/
def opdsOf : NOp → List Opd
  | .mov x => [x]
  | .asg x => [x]
  | .frz x => [x]
  | .nilo _ => []
  | .nck x => [x]
  | .boxF x => [x]
  | .blsF _ _ _ ps => ps.map fun p => p.2
  | .pick c a b => [c, a, b]
  | .bin _ x y => [x, y]
  | .beq _ _ x y => [x, y]
  | .un _ x => [x]
  | .conv _ x => [x]
  | .fld _ _ _ x => [x]
  | .idxA _ _ _ x i => [x, i]
  | .idxS x i => [x, i]
  | .ext _ x => [x]
  | .fad _ x => [x]
  | .iadS _ x i => [x, i]
  | .iadA _ _ x i => [x, i]
  | .ld _ _ x => [x]
  | .box _ x => [x]
  | .alc _ => []
  | .mkm _ _ => []
  | .mpl _ _ _ _ _ m x => [m, x]
  | .mpu _ _ _ _ m x v => [m, x, v]
  | .bld _ ps => ps.map fun p => p.2.2
  | .bls _ _ _ _ ps => ps.map fun p => p.2
  | .mks _ _ _ n c => [n, c]
  | .len x => [x]
  | .lens x => [x]
  | .call _ xs _ => xs
  | .callv x xs => x :: xs
  | .callF _ xs => xs
  | .callG _ xs => xs
  | .callS _ x xs => x :: xs
  | .callN _ x xs => x :: xs
  | .callE _ x xs => x :: xs
  | .callL _ x xs => x :: xs
  | .callA _ xs => xs
  | .clr _ x => [x]
  | .mk _ xs => xs
  | .slc _ x lo hi => x :: (optL lo ++ optL hi)
  | .slS x lo hi => x :: (optL lo ++ optL hi)
  | .slA _ _ x => [x]
  | .slM _ _ x => [x]
  | .cvS x => [x]
  | .mn x y => [x, y]
  | .mx x y => [x, y]
  | .add64 x y c => [x, y, c]
  | .sub64 x y c => [x, y, c]
  | .st _ _ a v => [a, v]
  | .app _ _ _ x y => [x, y]
  | .dead => []

section
variable {C : Nat → List D → D → List D → Prop} {f g : Nat → D}

def AgreeD (f g : Nat → D) (d : D) : Prop := ∀ b, ment b true d = true → g b = f b

theorem mentP_root (p : Pa) : mentP p.root true p = true := by cases p <;> simp [mentP, Pa.root]
theorem getP_local {p : Pa} (h : g p.root = f p.root) : getP g p = getP f p := by
  cases p <;> simp only [getP, Pa.root] at h ⊢ <;> rw [h]
theorem AgreeD.ref {p : Pa} {k n : Nat} (h : AgreeD f g (.ref p k n)) : g p.root = f p.root := h _ (by simp only [ment, ment1]; exact mentP_root p)
theorem AgreeD.adr {p : Pa} {i o : Nat} (h : AgreeD f g (.adr p i o)) : g p.root = f p.root := h _ (by simp only [ment, ment1]; exact mentP_root p)

theorem AgreeD.mrf {b : Nat} (h : AgreeD f g (.mrf b)) : g b = f b := h _ (by simp [ment, ment1])

theorem dp1_local {d : D} (h : ∀ b, ment1 b true d = true → g b = f b) : dp1 g d = dp1 f d ∧ (dpOk1 g d ↔ dpOk1 f d) := by
  cases d <;> try exact ⟨rfl, Iff.rfl⟩
  case ref p k n =>
    have e := getP_local (p := p) (h _ (by simp only [ment1]; exact mentP_root p))
    simp only [dp1, dpOk1, e, and_self]
  case adr p i off =>
    have e := getP_local (p := p) (h _ (by simp only [ment1]; exact mentP_root p))
    simp only [dp1, dpOk1, e, and_self]
theorem ment_part {b : Nat} {ds : List D} {d : D} (h : d ∈ ds) (hm : ment1 b true d = true) : ds.any (ment1 b true) = true := List.any_eq_true.2 ⟨d, h, hm⟩
theorem dp_plain {d : D} (h : isX d = false) (ha : AgreeD f g d) : dp g d = dp f d ∧ (dpOk g d ↔ dpOk f d) := by
  have e : ∀ f : Nat → D, dp f d = dp1 f d ∧ (dpOk f d ↔ dpOk1 f d) ∧ ∀ b, ment b true d = ment1 b true d := fun f => by
    cases d <;> first | exact ⟨rfl, Iff.rfl, fun _ => rfl⟩ | (simp [isX] at h)
  obtain ⟨e1, e2, e3⟩ := e f
  obtain ⟨g1, g2, _⟩ := e g
  obtain ⟨h1, h2⟩ := dp1_local (f := f) (g := g) (d := d) (fun b hb => ha b (by rw [e3]; exact hb))
  exact ⟨by rw [g1, e1, h1], by rw [g2, e2]; exact h2⟩
theorem dp_local {d : D} (h : AgreeD f g d) : dp g d = dp f d ∧ (dpOk g d ↔ dpOk f d) := by
  cases d
  case agx ds =>
    have e : ∀ d ∈ ds, dp1 g d = dp1 f d ∧ (dpOk1 g d ↔ dpOk1 f d) := fun d hd => dp1_local fun b hb => h b (ment_part hd hb)
    simp only [dp, dpOk]
    exact ⟨by rw [List.map_congr_left fun d hd => (e d hd).1], ⟨fun x d hd => (e d hd).2.1 (x d hd), fun x d hd => (e d hd).2.2 (x d hd)⟩⟩
  case tpx ds =>
    have e : ∀ d ∈ ds, dp1 g d = dp1 f d ∧ (dpOk1 g d ↔ dpOk1 f d) := fun d hd => dp1_local fun b hb => h b (ment_part hd hb)
    simp only [dp, dpOk]
    exact ⟨by rw [List.map_congr_left fun d hd => (e d hd).1], ⟨fun x d hd => (e d hd).2.1 (x d hd), fun x d hd => (e d hd).2.2 (x d hd)⟩⟩
  case ptx ds =>
    have e : ∀ d ∈ ds, dp1 g d = dp1 f d ∧ (dpOk1 g d ↔ dpOk1 f d) := fun d hd => dp1_local fun b hb => h b (ment_part hd hb)
    simp only [dp, dpOk]
    exact ⟨by rw [List.map_congr_left fun d hd => (e d hd).1], ⟨fun x d hd => (e d hd).2.1 (x d hd), fun x d hd => (e d hd).2.2 (x d hd)⟩⟩
  case fnx k ds =>
    have e : ∀ d ∈ ds, dp1 g d = dp1 f d ∧ (dpOk1 g d ↔ dpOk1 f d) := fun d hd => dp1_local fun b hb => h b (ment_part hd hb)
    simp only [dp, dpOk]
    exact ⟨by rw [List.map_congr_left fun d hd => (e d hd).1], ⟨fun x d hd => (e d hd).2.1 (x d hd), fun x d hd => (e d hd).2.2 (x d hd)⟩⟩
  all_goals
    exact dp_plain rfl h

theorem abs1W_local {d : D} {K : D → List Nat → Prop} (h : ∀ b, ment1 b true d = true → g b = f b) (hr : abs1W f d K) : abs1W g d K := by
  unfold abs1W at hr ⊢
  split at hr
  · rename_i b k n
    rw [h b (by simp [ment1, mentP])]
    exact hr
  · exact hr
theorem absLW_local : ∀ {ds : List D} {K : List D → List Nat → Prop}, (∀ d ∈ ds, ∀ b, ment1 b true d = true → g b = f b) → absLW f ds K → absLW g ds K
  | [], K, _, hr => hr
  | d :: ds, K, h, hr => by
    obtain ⟨c, bs, h1, h2⟩ := abs1W_one hr
    obtain ⟨cs, bs', h3, h4⟩ := absLW_one h1
    refine abs1W_local (h d (by simp)) (h2 _ (absLW_local (fun d hd => h d (by simp [hd])) (h4 _ h3)))
theorem absW_local {d : D} {ns : List Nat} {K : List D → List Nat → Prop} (h : AgreeD f g d) (hr : absW f d ns K) : absW g d ns K := by
  unfold absW at hr ⊢
  split at hr
  · exact hr
  · exact ⟨hr.1, absLW_local (fun d hd b hb => h b (ment_part hd hb)) hr.2⟩
  · rename_i hne1 hne2
    refine ⟨hr.1, abs1W_local (fun b hb => h b ?_) hr.2⟩
    cases d <;> first | exact hb | (exact absurd rfl (hne2 _)) | (simp [ment1] at hb)
theorem partsW_local {sz : Nat} {ns : List Nat} : ∀ {ps : List (Nat × Opd)} {es : List (List D)} {bs : List Nat} {K : List (List D) → List Nat → Prop}, (∀ p ∈ ps, vd g p.2 = vd f p.2 ∧ AgreeD f g (vd f p.2)) → partsW f sz ns ps es bs K → partsW g sz ns ps es bs K
  | [], es, bs, K, _, hr => hr
  | (i, x) :: ps, es, bs, K, h, hr => by
    obtain ⟨h0, hr⟩ := hr
    obtain ⟨e1, e2⟩ := h (i, x) (by simp)
    obtain ⟨cs, b1, ⟨h1, h1'⟩, h2⟩ := absW_one hr
    refine ⟨h0, ?_⟩
    simp only at e1 e2
    rw [e1]
    exact absW_local e2 (h2 _ ⟨h1, partsW_local (fun p hp => h p (by simp [hp])) h1'⟩)
theorem rowsW_local {mv : Bool} {d : D} {sz : Nat} {K : List (List D) → List Nat → Prop} (h : AgreeD f g d) (hr : rowsW f mv d sz K) : rowsW g mv d sz K := by
  unfold rowsW at hr ⊢
  split at hr
  · exact hr
  · exact hr
  · rename_i p k n
    cases mv with
    | true =>
      obtain ⟨h0, hr⟩ := hr
      refine ⟨h0, ?_⟩
      cases p with
      | r b => simp only at hr ⊢; rw [show g b = f b from h.ref]; exact hr
      | n b i o => exact hr
    | false => simp only at hr ⊢; rw [getP_local h.ref]; exact hr
  · exact hr

theorem bound_local {x : Option Opd} {n : Nat} {K : Nat → Prop} (h : ∀ y ∈ optL x, vd g y = vd f y) (hr : bound f x n K) : bound g x n K := by
  unfold bound at hr ⊢
  split at hr
  · exact hr
  · rename_i y
    rw [h y (by simp [optL])]
    exact hr

theorem fillR_local : ∀ {ps : List (Nat × Opd)} {es : List (List D)}, (∀ p ∈ ps, vd g p.2 = vd f p.2) → fillR g ps es = fillR f ps es
  | [], _, _ => rfl
  | p :: ps, es, h => by
    simp only [fillR]
    rw [h p (by simp)]
    exact fillR_local fun q hq => h q (by simp [hq])
theorem res_local {o : NOp} {K : D → Prop} (hv : ∀ x ∈ opdsOf o, vd g x = vd f x) (ha : ∀ x ∈ opdsOf o, AgreeD f g (vd f x)) (hr : res f K o) : res g K o := by
  cases o with
  | ld n ag x =>
    have e := hv x (by simp [opdsOf]); have a := ha x (by simp [opdsOf])
    simp only [res, e] at hr ⊢
    split at hr
    · rename_i ex; rw [ex] at a; rw [getP_local a.adr]; exact hr
    · exact hr
    · exact hr
    · exact hr
  | iadS sz x i =>
    have e := hv x (by simp [opdsOf]); have a := ha x (by simp [opdsOf]); have e2 := hv i (by simp [opdsOf])
    simp only [res, e, e2] at hr ⊢
    split at hr
    · exact hr
    · rename_i ex _; rw [ex] at a; rw [getP_local a.ref]; exact hr
    · exact hr
  | slc sz x lo hi =>
    have e := hv x (by simp [opdsOf]); have a := ha x (by simp [opdsOf])
    have hlo : ∀ y ∈ optL lo, vd g y = vd f y := fun y hy => hv y (by simp [opdsOf, hy])
    have hhi : ∀ y ∈ optL hi, vd g y = vd f y := fun y hy => hv y (by simp [opdsOf, hy])
    simp only [res, e] at hr ⊢
    split at hr
    · exact ⟨hr.1, bound_local hhi (bound_mono hr.2 fun m h => bound_local hlo h)⟩
    · exact bound_local hhi (bound_mono hr fun m h => bound_local hlo h)
    · rename_i ex
      rw [ex] at a; rw [getP_local a.ref]
      split at hr
      · exact ⟨hr.1, bound_local hhi (bound_mono hr.2 fun m h => bound_local hlo h)⟩
      · exact hr
    · exact hr
  | slS x lo hi =>
    have e := hv x (by simp [opdsOf])
    have hlo : ∀ y ∈ optL lo, vd g y = vd f y := fun y hy => hv y (by simp [opdsOf, hy])
    have hhi : ∀ y ∈ optL hi, vd g y = vd f y := fun y hy => hv y (by simp [opdsOf, hy])
    simp only [res, e] at hr ⊢
    split at hr
    · exact bound_local hhi (bound_mono hr fun m h => bound_local hlo h)
    · exact hr
  | bld zs ps =>
    have e : ∀ p ∈ ps, vd g p.2.2 = vd f p.2.2 := fun p hp => hv _ (List.mem_map.2 ⟨p, hp, rfl⟩)
    simp only [res] at hr ⊢
    obtain ⟨h1, h2, h3⟩ := hr
    have e2 : (ps.all fun p => isV (vd g p.2.2)) = (ps.all fun p => isV (vd f p.2.2)) := by
      rw [Bool.eq_iff_iff, List.all_eq_true, List.all_eq_true]
      exact ⟨fun h p hp => by rw [← e p hp]; exact h p hp, fun h p hp => by rw [e p hp]; exact h p hp⟩
    have m1 : (ps.map fun p => (p.1, p.2.1, vd g p.2.2)) = ps.map fun p => (p.1, p.2.1, vd f p.2.2) := List.map_congr_left fun p hp => by rw [e p hp]
    have m2 : (ps.map fun p => (p.1, p.2.1, aggOf (vd g p.2.2))) = ps.map fun p => (p.1, p.2.1, aggOf (vd f p.2.2)) := List.map_congr_left fun p hp => by rw [e p hp]
    rw [e2, m1, m2]
    exact ⟨fun p hp => by rw [e p hp]; exact h1 p hp, h2, h3⟩
  | mk k xs =>
    have e : ∀ x ∈ xs, vd g x = vd f x := fun x hx => hv x hx
    simp only [res] at hr ⊢
    obtain ⟨h1, h2, h3⟩ := hr
    have e2 : (xs.all fun x => isV (vd g x)) = (xs.all fun x => isV (vd f x)) := by
      rw [Bool.eq_iff_iff, List.all_eq_true, List.all_eq_true]
      exact ⟨fun h p hp => by rw [← e p hp]; exact h p hp, fun h p hp => by rw [e p hp]; exact h p hp⟩
    rw [e2, List.map_congr_left e]
    exact ⟨fun p hp => by rw [e p hp]; exact h1 p hp, h2, h3⟩
  | pick c x y => simp only [res, hv c (by simp [opdsOf]), hv x (by simp [opdsOf]), hv y (by simp [opdsOf])] at hr ⊢; exact hr
  | add64 x y c => simp only [res, hv c (by simp [opdsOf]), hv x (by simp [opdsOf]), hv y (by simp [opdsOf])] at hr ⊢; exact hr
  | sub64 x y c => simp only [res, hv c (by simp [opdsOf]), hv x (by simp [opdsOf]), hv y (by simp [opdsOf])] at hr ⊢; exact hr
  | bin op x y => simp only [res, hv x (by simp [opdsOf]), hv y (by simp [opdsOf])] at hr ⊢; exact hr
  | beq op ks x y => simp only [res, hv x (by simp [opdsOf]), hv y (by simp [opdsOf])] at hr ⊢; exact hr
  | idxA l s g x i => simp only [res, hv x (by simp [opdsOf]), hv i (by simp [opdsOf])] at hr ⊢; exact hr
  | idxS x i => simp only [res, hv x (by simp [opdsOf]), hv i (by simp [opdsOf])] at hr ⊢; exact hr
  | iadA l s x i => simp only [res, hv x (by simp [opdsOf]), hv i (by simp [opdsOf])] at hr ⊢; exact hr
  | mn x y => simp only [res, hv x (by simp [opdsOf]), hv y (by simp [opdsOf])] at hr ⊢; exact hr
  | mx x y => simp only [res, hv x (by simp [opdsOf]), hv y (by simp [opdsOf])] at hr ⊢; exact hr
  | mov x => simp only [res, hv x (by simp [opdsOf])] at hr ⊢; exact hr
  | nck x => simp only [res, hv x (by simp [opdsOf])] at hr ⊢; exact hr
  | un op x => simp only [res, hv x (by simp [opdsOf])] at hr ⊢; exact hr
  | conv k x => simp only [res, hv x (by simp [opdsOf])] at hr ⊢; exact hr
  | slA l s x => simp only [res, hv x (by simp [opdsOf])] at hr ⊢; exact hr
  | cvS x => simp only [res, hv x (by simp [opdsOf])] at hr ⊢; exact hr
  | fld a b c x => simp only [res, hv x (by simp [opdsOf])] at hr ⊢; exact hr
  | ext i x => simp only [res, hv x (by simp [opdsOf])] at hr ⊢; exact hr
  | fad i x => simp only [res, hv x (by simp [opdsOf])] at hr ⊢; exact hr
  | len x => simp only [res, hv x (by simp [opdsOf])] at hr ⊢; exact hr
  | boxF x => simp only [res, hv x (by simp [opdsOf])] at hr ⊢; exact hr
  | blsF sz len zs ps =>
    have e : ∀ p ∈ ps, vd g p.2 = vd f p.2 := fun p hp => hv _ (List.mem_map.2 ⟨p, hp, rfl⟩)
    simp only [res] at hr ⊢
    rw [fillR_local e]
    exact ⟨fun p hp => by rw [e p hp]; exact hr.1 p hp, hr.2⟩
  | lens x => simp only [res, hv x (by simp [opdsOf])] at hr ⊢; exact hr
  | mpl sh kt et ok z m x =>
    have e := hv m (by simp [opdsOf]); have a := ha m (by simp [opdsOf]); have e2 := hv x (by simp [opdsOf])
    simp only [res, e, e2] at hr ⊢
    split at hr
    · rename_i b ex
      rw [ex] at a
      rw [a.mrf]
      exact hr
    · exact hr
  | _ => simp only [res] at hr

theorem resX_local {o : NOp} {dst : Option Nat} {K : List (Nat × D) → List (Nat × Bool) → Prop} (hv : ∀ x ∈ opdsOf o, vd g x = vd f x) (ha : ∀ x ∈ opdsOf o, AgreeD f g (vd f x)) (hr : resX C f dst K o) : resX C g dst K o := by
  cases o with
  | frz x =>
    have e := hv x (by simp [opdsOf]); have a := ha x (by simp [opdsOf])
    cases dst with
    | none => exact hr
    | some t =>
      simp only [resX, e] at hr ⊢
      split at hr
      · rename_i c k n ex
        rw [ex] at a
        have hl := dp1_local (d := .ref (.r c) k n) (f := f) (g := g) (fun b hb => a b (by simp only [ment]; exact hb))
        rw [hl.1]
        exact ⟨hl.2.2 hr.1, hr.2⟩
      · exact hr
  | asg x =>
    have e := hv x (by simp [opdsOf]); have a := ha x (by simp [opdsOf])
    cases dst with
    | none => exact hr
    | some t =>
      simp only [resX, e] at hr ⊢
      split at hr
      · rename_i c k n ex
        rw [ex] at a
        rw [show g c = f c from a.ref]
        exact hr
      · exact hr
  | slM len sz x =>
    have e := hv x (by simp [opdsOf]); have a := ha x (by simp [opdsOf])
    cases dst with
    | none => exact hr
    | some t =>
      simp only [resX, e] at hr ⊢
      split at hr
      · rename_i c i off ex
        rw [ex] at a
        rw [show g c = f c from a.adr]
        exact hr
      · exact hr
  | nilo sz => exact hr
  | alc zs => exact hr
  | mkm kt et => exact hr
  | mpu sh kt et z m x v =>
    have e := hv m (by simp [opdsOf]); have a := ha m (by simp [opdsOf]); have e2 := hv x (by simp [opdsOf]); have e3 := hv v (by simp [opdsOf])
    simp only [resX, e, e2, e3] at hr ⊢
    refine ⟨hr.1, ?_⟩
    have hr := hr.2
    split at hr
    · rename_i b ex
      rw [ex] at a
      rw [a.mrf]
      exact hr
    · exact hr
  | box ns x =>
    have e := hv x (by simp [opdsOf]); have a := ha x (by simp [opdsOf])
    cases dst with
    | none => exact hr
    | some t => simp only [resX, e] at hr ⊢; exact absW_local a hr
  | bls sz len zs ns ps =>
    cases dst with
    | none => exact hr
    | some t => simp only [resX] at hr ⊢; exact partsW_local (fun p hp => ⟨hv _ (List.mem_map.2 ⟨p, hp, rfl⟩), ha _ (List.mem_map.2 ⟨p, hp, rfl⟩)⟩) hr
  | mks sz by_ zs n c =>
    have e := hv n (by simp [opdsOf]); have e2 := hv c (by simp [opdsOf])
    cases dst with
    | none => exact hr
    | some t => simp only [resX, e, e2] at hr ⊢; exact hr
  | st n ns x v =>
    have e := hv x (by simp [opdsOf]); have a := ha x (by simp [opdsOf]); have e2 := hv v (by simp [opdsOf]); have a2 := ha v (by simp [opdsOf])
    simp only [resX, e, e2] at hr ⊢
    obtain ⟨h0, hr⟩ := hr
    refine ⟨h0, ?_⟩
    obtain ⟨cs, bs, ⟨h1, h2⟩, h3⟩ := absW_one hr
    refine absW_local a2 (h3 _ ⟨h1, ?_⟩)
    split at h2
    · rename_i b i off ex; rw [ex] at a; rw [show g b = f b from a.adr]; exact h2
    · rename_i b i0 o0 i off ex; rw [ex] at a; rw [show g b = f b from a.adr]; exact h2
    · exact h2
  | app sz by_ mv x y =>
    have e := hv x (by simp [opdsOf]); have a := ha x (by simp [opdsOf]); have e2 := hv y (by simp [opdsOf]); have a2 := ha y (by simp [opdsOf])
    cases dst with
    | none => exact hr
    | some t =>
      simp only [resX, e, e2] at hr ⊢
      obtain ⟨rows, bs, ⟨h1, h2⟩, h3⟩ := rowsW_one hr
      refine rowsW_local a2 (h3 _ ⟨h1, ?_⟩)
      split at h2
      · exact h2
      · rename_i c k n ex; rw [ex] at a; rw [show g c = f c from a.ref]; exact h2
      · rename_i c i o k n ex; rw [ex] at a; rw [show g c = f c from a.ref]; exact h2
      · exact h2
  | call k xs ms =>
    simp only [resX] at hr ⊢
    obtain ⟨h0, d, h1, h2, h3⟩ := hr
    have e : ∀ x ∈ xs, dpv g x = dpv f x ∧ (dpOk g (vd g x) ↔ dpOk f (vd f x)) := fun x hx => by
      have := dp_local (ha x hx)
      unfold dpv
      rw [hv x hx]
      exact this
    refine ⟨fun x hx => (e x hx).2.2 (h0 x hx), d, by rw [List.map_congr_left fun x hx => (e x hx).1]; exact h1, h2.imp id (fun h => ?_), h3⟩
    rw [List.all_eq_true] at h ⊢
    exact fun x hx => by rw [hv x hx]; exact h x hx
  | callG k xs =>
    have e : ∀ x ∈ xs, dpv g x = dpv f x ∧ (dpOk g (vd g x) ↔ dpOk f (vd f x)) := fun x hx => by
      have := dp_local (ha x hx)
      unfold dpv
      rw [hv x hx]
      exact this
    simp only [resX] at hr ⊢
    rw [List.map_congr_left fun x hx => (e x hx).1]
    exact ⟨fun x hx => (e x hx).2.2 (hr.1 x hx), hr.2⟩
  | callF k xs =>
    have e : ∀ x ∈ xs, dpv g x = dpv f x ∧ (dpOk g (vd g x) ↔ dpOk f (vd f x)) := fun x hx => by
      have := dp_local (ha x hx)
      unfold dpv
      rw [hv x hx]
      exact this
    simp only [resX] at hr ⊢
    rw [List.map_congr_left fun x hx => (e x hx).1]
    exact ⟨fun x hx => (e x hx).2.2 (hr.1 x hx), hr.2⟩
  | callS k x0 xs =>
    have e0 := hv x0 (by simp [opdsOf]); have a0 := ha x0 (by simp [opdsOf])
    have eb : ∀ b, ∀ x ∈ xs, vd (fbE g b) x = vd (fbE f b) x ∧ AgreeD (fbE f b) (fbE g b) (vd (fbE f b) x) := fun b x hx => by
      have h1 := hv x (by simp [opdsOf, hx])
      have h2 := ha x (by simp [opdsOf, hx])
      have hag : AgreeD (fbE f b) (fbE g b) (vd f x) := fun c hc => by
        unfold fbE
        split
        · rfl
        · exact h2 c hc
      cases x with
      | t t =>
        simp only [vd] at h1 hag ⊢
        unfold fbE
        split
        · exact ⟨rfl, fun c hc => by simp [ment, ment1] at hc⟩
        · exact ⟨h1, hag⟩
      | c d => exact ⟨rfl, hag⟩
    have ed : ∀ b, ∀ x ∈ xs, dpv (fbE g b) x = dpv (fbE f b) x ∧ (dpOk (fbE g b) (vd (fbE g b) x) ↔ dpOk (fbE f b) (vd (fbE f b) x)) := fun b x hx => by
      have := dp_local (eb b x hx).2
      unfold dpv
      rw [(eb b x hx).1]
      exact this
    have eo : ∀ b es', okF (fbE g b) xs es' ↔ okF (fbE f b) xs es' := fun b es' => by
      unfold okF
      rw [List.all_eq_true, List.all_eq_true]
      exact or_congr ⟨fun h x hx => by rw [← (eb b x hx).1]; exact h x hx, fun h x hx => by rw [(eb b x hx).1]; exact h x hx⟩ Iff.rfl
    simp only [resX, e0] at hr ⊢
    split at hr
    · rename_i b k n hvx
      rw [hvx] at a0
      have hb : g b = f b := a0.ref
      rw [hb, List.map_congr_left fun x hx => (ed b x hx).1]
      simp only [eo]
      obtain ⟨h1, hr⟩ := hr
      refine ⟨h1, ?_⟩
      split at hr
      · exact ⟨hr.1, hr.2.1, fun x hx => (ed b x hx).2.2 (hr.2.2.1 x hx), hr.2.2.2⟩
      · exact hr.elim
    · exact hr.elim
  | callN k x0 xs =>
    have e0 := hv x0 (by simp [opdsOf]); have a0 := ha x0 (by simp [opdsOf])
    have e : ∀ x ∈ xs, vd g x = vd f x := fun x hx => hv x (by simp [opdsOf, hx])
    simp only [resX, e0] at hr ⊢
    split at hr
    · rename_i b i o k n hvx
      rw [hvx] at a0
      have hb : g b = f b := a0.ref
      rw [hb, List.map_congr_left e]
      obtain ⟨h1, hr⟩ := hr
      refine ⟨h1, ?_⟩
      split at hr
      · obtain ⟨row0, h2, sz, es, h3, h4, h5, h6⟩ := hr
        exact ⟨row0, h2, sz, es, h3, h4, fun x hx => by rw [e x hx]; exact h5 x hx, h6⟩
      · exact hr.elim
    · exact hr.elim
  | callA k xs =>
    have e : ∀ x ∈ xs, vd g x = vd f x := fun x hx => hv x (by simp [opdsOf, hx])
    simp only [resX] at hr ⊢
    rw [List.map_congr_left e]
    exact ⟨fun x hx => by rw [e x hx]; exact hr.1 x hx, hr.2⟩
  | callL k x0 xs =>
    have e0 := hv x0 (by simp [opdsOf]); have a0 := ha x0 (by simp [opdsOf])
    have e : ∀ x ∈ xs, vd g x = vd f x := fun x hx => hv x (by simp [opdsOf, hx])
    simp only [resX, e0] at hr ⊢
    split at hr
    · rename_i b i o hvx
      rw [hvx] at a0
      have hb : g b = f b := a0.adr
      rw [hb, List.map_congr_left e]
      obtain ⟨h1, h2, hr⟩ := hr
      refine ⟨h1, h2, ?_⟩
      split at hr
      · exact ⟨hr.1, fun x hx => by rw [e x hx]; exact hr.2.1 x hx, hr.2.2⟩
      · exact hr.elim
    · exact hr.elim
  | clr zs x0 =>
    have e0 := hv x0 (by simp [opdsOf]); have a0 := ha x0 (by simp [opdsOf])
    simp only [resX, e0] at hr ⊢
    split at hr
    · exact hr
    · rename_i b k n hvx
      rw [hvx] at a0
      have hb : g b = f b := a0.ref
      rw [hb]
      exact hr
    · rename_i b i o k n hvx
      rw [hvx] at a0
      have hb : g b = f b := a0.ref
      rw [hb]
      exact hr
    · exact hr.elim
  | callE k x0 xs =>
    have e0 := hv x0 (by simp [opdsOf]); have a0 := ha x0 (by simp [opdsOf])
    have e : ∀ x ∈ xs, argV g x = argV f x ∧ ∀ b, argE g b x ↔ argE f b x := fun x hx => by
      have h1 := hv x (by simp [opdsOf, hx])
      have h2 := ha x (by simp [opdsOf, hx])
      unfold argV argE
      rw [h1]
      revert h2
      generalize vd f x = d
      intro h2
      cases d <;> first | exact ⟨rfl, fun _ => Iff.rfl⟩ | skip
      rename_i p k n
      cases p with
      | r c =>
        have hb : g c = f c := h2.ref
        exact ⟨by simp only [hb], fun _ => by simp only [hb]⟩
      | n c i o => exact ⟨rfl, fun _ => Iff.rfl⟩
    simp only [resX, e0] at hr ⊢
    split at hr
    · split at hr
      · rename_i p k n hvx
        rw [hvx] at a0
        have hb : g p.root = f p.root := a0.ref
        have hd : deadP g p = deadP f p := by
          cases p with
          | r c => rfl
          | n c i o => simp only [deadP]; rw [show g c = f c from hb]
        simp only [getP_local hb, hd]
        rw [List.map_congr_left fun x hx => (e x hx).1]
        split at hr
        · obtain ⟨h1, h2, h3, h4, h5, h6⟩ := hr
          exact ⟨h1, h2, h3, h4, fun x hx => ((e x hx).2 _).2 (h5 x hx), h6⟩
        · exact hr.elim
      · exact hr.elim
    · exact hr.elim
  | callv x0 xs =>
    have e0 := hv x0 (by simp [opdsOf]); have a0 := ha x0 (by simp [opdsOf])
    have e : ∀ x ∈ xs, dpv g x = dpv f x ∧ (dpOk g (vd g x) ↔ dpOk f (vd f x)) := fun x hx => by
      have := dp_local (ha x (by simp [opdsOf, hx]))
      unfold dpv
      rw [hv x (by simp [opdsOf, hx])]
      exact this
    simp only [resX, e0] at hr ⊢
    split at hr
    · obtain ⟨h0, d, h1, h2, h3⟩ := hr
      refine ⟨fun x hx => (e x hx).2.2 (h0 x hx), d, by rw [List.map_congr_left fun x hx => (e x hx).1]; exact h1, h2.imp id (fun h => ?_), h3⟩
      rw [List.all_eq_true] at h ⊢
      exact fun x hx => by rw [hv x (by simp [opdsOf, hx])]; exact h x hx
    · rename_i k cs ex
      rw [ex] at a0
      obtain ⟨h0, h0', d, h1, h2, h3⟩ := hr
      have ec : ∀ c ∈ cs, dp1 g c = dp1 f c ∧ (dpOk1 g c ↔ dpOk1 f c) := fun c hc => dp1_local fun b hb => a0 b (ment_part hc hb)
      exact ⟨fun x hx => (e x hx).2.2 (h0 x hx), fun c hc => (ec c hc).2.2 (h0' c hc), d, by rw [List.map_congr_left fun x hx => (e x hx).1, List.map_congr_left fun c hc => (ec c hc).1]; exact h1, h2, h3⟩
    · exact hr
  | _ => (simp only [resX] at hr ⊢; exact res_local hv ha hr)
end
end Go.Gv

namespace Go.Gv
open Go.RowKit

def mroots1 : D → List Nat
  | .ref p _ _ => [p.root]
  | .adr p _ _ => [p.root]
  | .mrf b => [b]
  | _ => []
def mroots : D → List Nat
  | .agx ds => ds.flatMap mroots1
  | .tpx ds => ds.flatMap mroots1
  | .ptx ds => ds.flatMap mroots1
  | .fnx _ ds => ds.flatMap mroots1
  | d => mroots1 d

theorem mentP_eq {b : Nat} {all : Bool} {p : Pa} (h : mentP b all p = true) : b = p.root := by
  cases p <;> simp [mentP, Pa.root] at h ⊢ <;> simp_all
theorem ment1_roots {b : Nat} {all : Bool} {d : D} (h : ment1 b all d = true) : b ∈ mroots1 d := by
  cases d <;> simp only [ment1, Bool.false_eq_true] at h
  case ref p k n => simp [mroots1, mentP_eq h]
  case adr p i o => simp [mroots1, mentP_eq h]
  case mrf c => simp at h; simp [mroots1, h.2]
theorem ment_roots {b : Nat} {all : Bool} {d : D} (h : ment b all d = true) : b ∈ mroots d := by
  have part : ∀ ds : List D, ds.any (ment1 b all) = true → b ∈ ds.flatMap mroots1 := fun ds h => by
    obtain ⟨d, h1, h2⟩ := List.any_eq_true.1 h
    exact List.mem_flatMap.2 ⟨d, h1, ment1_roots h2⟩
  cases d
  case agx ds => exact part ds h
  case tpx ds => exact part ds h
  case ptx ds => exact part ds h
  case fnx g ds => exact part ds h
  all_goals (simp only [ment] at h; simp only [mroots]; exact ment1_roots h)

theorem mentL_any (ks : List (Nat × Bool)) : mentL ks .any = false := by
  simp [mentL, ment, ment1]
theorem mentL_some {ks : List (Nat × Bool)} {d : D} (h : mentL ks d = true) : ∃ k ∈ ks, ment k.1 k.2 d = true := by
  simpa [mentL] using h

theorem lookup_mem {ws : List (Nat × D)} {k : Nat} {d : D} (h : ws.lookup k = some d) : (k, d) ∈ ws := by
  induction ws with
  | nil => cases h
  | cons p ws ih =>
    obtain ⟨s, x⟩ := p
    rw [List.lookup_cons] at h
    cases e : k == s with
    | true => rw [e] at h; simp at e h; subst e; subst h; simp
    | false => rw [e] at h; simp [ih h]
theorem lookup_not {ws : List (Nat × D)} {k : Nat} (h : k ∉ ws.map (·.1)) : ws.lookup k = none := by
  refine lookup_none fun d hd => h (List.mem_map.2 ⟨_, hd, rfl⟩)

/-- A family of effects, what each reads, and what must come before what. -/
structure Fam where
  n : Nat
  ws : Nat → List (Nat × D)
  ks : Nat → List (Nat × Bool)
  rd : Nat → List Nat
  mn : Nat → List Nat
  bef : Nat → Nat → Bool
  f0 : Nat → D

def Fam.W (A : Fam) (i : Nat) : List Nat := (A.ws i).map (·.1)
def Fam.E (A : Fam) (i : Nat) : (Nat → D) → (Nat → D) := eff (A.ws i) (A.ks i)
/-- The effects that are listed, in the order of the text, up to m. -/
def Fam.G (A : Fam) (l : Nat → Bool) : Nat → (Nat → D)
  | 0 => A.f0
  | m + 1 => if l m then A.E m (A.G l m) else A.G l m
def Fam.St (A : Fam) (m : Nat) : Nat → D := A.G (fun _ => true) m
def Fam.Apart (A : Fam) (i j : Nat) : Prop := (∀ k ∈ A.W i, k ∉ A.rd j ∧ k ∉ A.W j) ∧ ∀ k ∈ A.ks i, k.1 ∉ A.mn j
def Fam.Ind (A : Fam) (i j : Nat) : Prop := A.Apart i j ∧ A.Apart j i

structure Fam.Ok (A : Fam) : Prop where
  kills : ∀ i, i < A.n → ∀ k ∈ A.ks i, k.1 ∈ A.W i
  vals : ∀ i, i < A.n → ∀ p ∈ A.ws i, ∀ b all, ment b all p.2 = true → b ∈ A.mn i ∨ b ∈ A.W i
  closed : ∀ i, i < A.n → ∀ k ∈ A.rd i, ∀ b all, ment b all (A.St i k) = true → b ∈ A.mn i
  known : ∀ i, i < A.n → ∀ k ∈ A.rd i, A.St i k ≠ .any
  pairs : ∀ i j, i < j → j < A.n → A.bef j i = true ∨ A.Ind i j

section
variable {A : Fam}

theorem eff_some {ws : List (Nat × D)} {ks : List (Nat × Bool)} {f : Nat → D} {k : Nat} {d : D} (h : ws.lookup k = some d) : eff ws ks f k = d := eff_at h
theorem eff_none {ws : List (Nat × D)} {ks : List (Nat × Bool)} {f : Nat → D} {k : Nat} (h : ws.lookup k = none) : eff ws ks f k = if mentL ks (f k) then .any else f k := by
  unfold eff; rw [h]

/-- What one writes, the other does not kill. -/
theorem Fam.Ok.noKill (h : A.Ok) {i j : Nat} (hi : i < A.n) (hj : j < A.n) (hI : A.Apart j i) {p : Nat × D} (hp : p ∈ A.ws i) : mentL (A.ks j) p.2 = false := by
  cases hm : mentL (A.ks j) p.2 with
  | false => rfl
  | true =>
    obtain ⟨k, h1, h2⟩ := mentL_some hm
    have h3 := h.kills j hj k h1
    have h5 := (hI.1 _ h3).2
    have h4 := hI.2 k h1
    rcases h.vals i hi p hp _ _ h2 with h6 | h6
    · exact absurd h6 h4
    · exact absurd h6 h5

theorem Fam.Ok.comm (h : A.Ok) {i j : Nat} (hi : i < A.n) (hj : j < A.n) (hI : A.Ind i j) (f : Nat → D) : A.E i (A.E j f) = A.E j (A.E i f) := by
  funext k
  unfold Fam.E
  cases h1 : (A.ws i).lookup k with
  | some d =>
    have hk : k ∈ A.W i := List.mem_map.2 ⟨_, lookup_mem h1, rfl⟩
    have h2 : (A.ws j).lookup k = none := lookup_not (hI.1.1 k hk).2
    have h3 := h.noKill hi hj hI.2 (lookup_mem h1)
    rw [eff_some h1, eff_none h2, eff_some h1]
    simp only at h3
    rw [h3]; rfl
  | none =>
    cases h2 : (A.ws j).lookup k with
    | some d =>
      have h3 := h.noKill hj hi hI.1 (lookup_mem h2)
      rw [eff_none h1, eff_some h2, eff_some h2]
      simp only at h3
      rw [h3]; rfl
    | none =>
      rw [eff_none h1, eff_none h2, eff_none h2, eff_none h1]
      cases e1 : mentL (A.ks i) (f k) <;> cases e2 : mentL (A.ks j) (f k) <;> simp [e1, e2, mentL_any]

def Shut (A : Fam) (l : Nat → Bool) : Prop := ∀ j, j < A.n → l j = true → ∀ i, i < j → A.bef j i = true → l i = true

open Classical in
/-- What the effects that are not listed kill. -/
noncomputable def killU (A : Fam) (l : Nat → Bool) (m : Nat) (d : D) : D := if ∃ u, u < m ∧ l u = false ∧ mentL (A.ks u) d = true then .any else d

theorem killU_any (l : Nat → Bool) (m : Nat) : killU A l m .any = .any := by
  unfold killU; split <;> rfl

theorem part1 (h : A.Ok) {l : Nat → Bool} (hs : Shut A l) : ∀ m, m ≤ A.n → ∀ k, (∀ u, u < m → l u = false → k ∉ A.W u) → A.St m k = killU A l m (A.G l m k)
  | 0, _, k, _ => by
    unfold killU
    rw [if_neg (by rintro ⟨u, hu, _⟩; omega)]
    rfl
  | m + 1, hm, k, hk => by
    have ih := part1 h hs m (by omega) k (fun u hu => hk u (by omega))
    have e1 : A.St (m + 1) k = A.E m (A.St m) k := by simp [Fam.St, Fam.G]
    rw [e1]
    cases hl : l m with
    | true =>
      have e2 : A.G l (m + 1) k = A.E m (A.G l m) k := by simp [Fam.G, hl]
      rw [e2]
      unfold Fam.E
      cases h1 : (A.ws m).lookup k with
      | some d =>
        rw [eff_some h1, eff_some h1]
        unfold killU
        rw [if_neg]
        rintro ⟨u, hu, hlu, hmu⟩
        have hum : u < m := by
          rcases Nat.lt_or_ge u m with h | h
          · exact h
          · have : u = m := by omega
            subst this; rw [hl] at hlu; cases hlu
        rcases h.pairs u m hum (by omega) with h2 | h2
        · rw [hs m (by omega) hl u hum h2] at hlu; cases hlu
        · have := h.noKill (i := m) (j := u) (by omega) (by omega) h2.1 (lookup_mem h1)
          simp only at this
          rw [this] at hmu; cases hmu
      | none =>
        rw [eff_none h1, eff_none h1, ih]
        have same : ∀ d, killU A l (m + 1) d = killU A l m d := fun d => by
          unfold killU
          congr 1
          refine propext ⟨fun ⟨u, h3, h4, h5⟩ => ⟨u, ?_, h4, h5⟩, fun ⟨u, h3, h4, h5⟩ => ⟨u, by omega, h4, h5⟩⟩
          rcases Nat.lt_or_ge u m with h | h
          · exact h
          · have : u = m := by omega
            subst this; rw [hl] at h4; cases h4
        rw [same]
        generalize A.G l m k = g
        by_cases hc : ∃ u, u < m ∧ l u = false ∧ mentL (A.ks u) g = true
        · have e3 : killU A l m g = .any := by unfold killU; rw [if_pos hc]
          rw [e3, mentL_any]
          cases hg : mentL (A.ks m) g with
          | true => simp only [if_true]; rw [killU_any]; rfl
          | false => simp only [Bool.false_eq_true, if_false]; rw [e3]
        · have e3 : killU A l m g = g := by unfold killU; rw [if_neg hc]
          rw [e3]
          cases hg : mentL (A.ks m) g with
          | true => simp only [if_true]; rw [killU_any]
          | false => simp only [Bool.false_eq_true, if_false]; rw [e3]
    | false =>
      have e2 : A.G l (m + 1) k = A.G l m k := by simp [Fam.G, hl]
      rw [e2]
      unfold Fam.E
      rw [eff_none (lookup_not (hk m (by omega) hl)), ih]
      generalize A.G l m k = g
      by_cases hc : ∃ u, u < m ∧ l u = false ∧ mentL (A.ks u) g = true
      · have e3 : killU A l m g = .any := by unfold killU; rw [if_pos hc]
        have e4 : killU A l (m + 1) g = .any := by
          unfold killU
          obtain ⟨u, h1, h2⟩ := hc
          rw [if_pos ⟨u, by omega, h2⟩]
        rw [e3, e4, mentL_any]; rfl
      · have e3 : killU A l m g = g := by unfold killU; rw [if_neg hc]
        rw [e3]
        cases hg : mentL (A.ks m) g with
        | true =>
          have e4 : killU A l (m + 1) g = .any := by unfold killU; exact if_pos ⟨m, by omega, hl, hg⟩
          rw [e4]; rfl
        | false =>
          have e4 : killU A l (m + 1) g = g := by
            unfold killU
            refine if_neg ?_
            rintro ⟨u, h1, h2, h3⟩
            rcases Nat.lt_or_ge u m with h | h
            · exact hc ⟨u, h, h2, h3⟩
            · have : u = m := by omega
              subst this; rw [hg] at h3; cases h3
          rw [e4]; rfl

/-- What an effect that may come now reads is what it reads in the order of the text. -/
theorem Fam.Ok.reads (h : A.Ok) {l : Nat → Bool} (hs : Shut A l) {j : Nat} (hj : j < A.n) (hlj : l j = false) (hb : ∀ i, i < j → A.bef j i = true → l i = true) : ∀ k ∈ A.rd j, A.G l A.n k = A.St j k := by
  intro k hk
  have h1 : A.G l j k = A.St j k := by
    have h2 := part1 h hs j (by omega) k (fun u hu hlu => by
      rcases h.pairs u j hu hj with h3 | h3
      · rw [hb u hu h3] at hlu; cases hlu
      · exact fun h4 => (h3.1.1 k h4).1 hk)
    have h3 := h.known j hj k hk
    rw [h2] at h3 ⊢
    unfold killU at h3 ⊢
    split at h3
    · exact absurd rfl h3
    · rename_i hc; rw [if_neg hc]
  have h2 : ∀ m, j ≤ m → m ≤ A.n → A.G l m k = A.St j k := by
    intro m
    induction m with
    | zero => intro h3 _; have : j = 0 := by omega
              subst this; exact h1
    | succ m ih =>
      intro h3 h4
      rcases Nat.lt_or_ge m j with h5 | h5
      · have : j = m + 1 := by omega
        rw [← this]; exact h1
      · have ihm := ih h5 (by omega)
        cases hl : l m with
        | false => simp [Fam.G, hl, ihm]
        | true =>
          have hjm : j < m := by
            rcases Nat.lt_or_ge j m with h | h
            · exact h
            · have : j = m := by omega
              subst this; rw [hl] at hlj; cases hlj
          rcases h.pairs j m hjm (by omega) with h6 | h6
          · rw [hs m (by omega) hl j hjm h6] at hlj; cases hlj
          · have h7 : (A.ws m).lookup k = none := lookup_not (fun h8 => (h6.2.1 k h8).1 hk)
            have h8 : mentL (A.ks m) (A.St j k) = false := by
              cases hm : mentL (A.ks m) (A.St j k) with
              | false => rfl
              | true =>
                obtain ⟨q, h9, h10⟩ := mentL_some hm
                exact absurd (h.closed j hj k hk _ _ h10) (h6.2.2 q h9)
            simp only [Fam.G, hl, if_true, Fam.E]
            rw [eff_none h7, ihm, h8]; rfl
  exact h2 A.n (by omega) (Nat.le_refl _)

/-- One effect more. -/
theorem Fam.Ok.more (h : A.Ok) {l l' : Nat → Bool} (hs : Shut A l) {j : Nat} (hj : j < A.n) (hlj : l j = false) (hj' : l' j = true) (hl' : ∀ i, i ≠ j → l' i = l i) : A.G l' A.n = A.E j (A.G l A.n) := by
  have low : ∀ m, m ≤ j → A.G l' m = A.G l m := by
    intro m
    induction m with
    | zero => intro _; rfl
    | succ m ih =>
      intro hm
      simp only [Fam.G]
      rw [ih (by omega), hl' m (by omega)]
  have high : ∀ m, j < m → m ≤ A.n → A.G l' m = A.E j (A.G l m) := by
    intro m
    induction m with
    | zero => intro h1; omega
    | succ m ih =>
      intro h1 h2
      rcases Nat.lt_or_ge j m with h3 | h3
      · have ihm := ih h3 (by omega)
        simp only [Fam.G]
        rw [hl' m (by omega), ihm]
        cases hl : l m with
        | false => rfl
        | true =>
          simp only [if_true]
          rcases h.pairs j m h3 (by omega) with h4 | h4
          · rw [hs m (by omega) hl j h3 h4] at hlj; cases hlj
          · exact (h.comm hj (by omega) h4 _).symm
      · have : m = j := by omega
        subst this
        simp only [Fam.G]
        rw [hj', hlj, low m (Nat.le_refl _)]
        rfl
  exact high A.n hj (Nat.le_refl _)
end
end Go.Gv

namespace Go.Gv
open Go.RowKit

def opdSlots : Opd → List Nat
  | .t s => [s]
  | .c _ => []
def gSlot : Option (Nat × Bool) → List Nat
  | some (s, _) => [s]
  | none => []
/-- The slots that a step reads, and the roots that they lead to. -/
def rdS (n : NOper) : List Nat := (opdsOf n.op).flatMap opdSlots ++ gSlot n.guard
/-- The operands whose roots' contents are looked at. -/
def opsN : NOp → List Opd
  | .mov _ => []
  | .nck _ => []
  | .pick _ _ _ => []
  | .bin _ _ _ => []
  | .un _ _ => []
  | .conv _ _ => []
  | .fld _ _ _ _ => []
  | .ext _ _ => []
  | .fad _ _ => []
  | .ld _ _ _ => []
  | .mk _ _ => []
  | .bld _ _ => []
  | .boxF _ => []
  | .blsF _ _ _ _ => []
  | .len _ => []
  | .iadA _ _ _ _ => []
  | o => opdsOf o
def ldN : NOp → List Opd
  | .ld _ _ x => [x]
  | _ => []
def rdR (f : Nat → D) (n : NOper) : List Nat := ((opsN n.op).flatMap fun x => mroots (vd f x)) ++ ((ldN n.op).flatMap fun x => mroots1 (vd f x))
/-- The roots that a step's operands lead to. -/
def mnR (f : Nat → D) (n : NOper) : List Nat := (opdsOf n.op).flatMap fun x => mroots (vd f x)
/-- What is read, and (marked) what is led to. -/
def encR (f : Nat → D) (n : NOper) : List Nat := (rdS n ++ rdR f n).map (2 * ·) ++ (mnR f n).map (2 * · + 1)
/-- What is written, and (marked) what is killed. -/
def wrK (ws : List (Nat × D)) (ks : List (Nat × Bool)) : List Nat := (ws.map fun p => 2 * p.1) ++ ks.map fun k => 2 * k.1 + 1
def isAny : D → Bool
  | .any => true
  | _ => false
def chk (f : Nat → D) (n : NOper) : Bool := ((rdS n).all fun s => !isAny (f s)) && (rdR f n).all fun b => isB (f b)
def wOk (R : List Nat) (ws : List (Nat × D)) (ks : List (Nat × Bool)) : Bool :=
  (ks.all fun k => (ws.map (·.1)).contains k.1) && ws.all fun p => (mroots p.2).all fun b => R.contains (2 * b + 1) || (ws.map (·.1)).contains b
def apartL (x : List Nat) (r w : List Nat) : Bool := x.all fun k => !r.contains k && !w.contains k
def indOk (hs : List Nat) (rw : List (List Nat × List Nat)) : Bool :=
  rw.zipIdx.all fun p => rw.zipIdx.all fun q => !decide (p.2 < q.2) || (hs.getD q.2 0).testBit p.2 || (apartL p.1.2 q.1.1 q.1.2 && apartL q.1.2 p.1.1 p.1.2)

def dstL : Option Nat → List Nat
  | some t => [2 * t]
  | none => []

def wpNd (C : Nat → List D → D → List D → Prop) (hs : List Nat) (K : Env → Prop) : List NOper → Env → List (List Nat × List Nat) → Prop
  | [], e, acc => indOk hs acc.reverse = true ∧ K e
  | o :: os, e, acc => chk (look e) o = true ∧ match o.guard with
    | none => resX C (look e) o.dst (fun ws ks => wOk (encR (look e) o) ws ks = true ∧ wpNd C hs K os (ws ++ killE ks e) ((encR (look e) o, wrK ws ks) :: acc)) o.op
    | some (s, want) => match look e s with
      | .bool b => (b = want → resX C (look e) o.dst (fun ws ks => wOk (encR (look e) o) ws ks = true ∧ wpNd C hs K os (ws ++ killE ks e) ((encR (look e) o, wrK ws ks) :: acc)) o.op) ∧
          (b = !want → skipE e o.dst fun e' => wpNd C hs K os e' ((encR (look e) o, dstL o.dst) :: acc))
      | .tup [] => skipE e o.dst fun e' => wpNd C hs K os e' ((encR (look e) o, dstL o.dst) :: acc)
      | _ => False

def wsOf (n : NOper) : Option (List (Nat × D) × List (Nat × Bool)) → List (Nat × D)
  | some (ws, _) => ws
  | none => match n.dst with
    | some t => [(t, .tup [])]
    | none => []
def ksOf : Option (List (Nat × D) × List (Nat × Bool)) → List (Nat × Bool)
  | some (_, ks) => ks
  | none => []
theorem effX_eq (n : NOper) (x : Option (List (Nat × D) × List (Nat × Bool))) (f : Nat → D) : effX n x f = eff (wsOf n x) (ksOf x) f := by
  cases x with
  | some y => rfl
  | none =>
    unfold effX wsOf ksOf
    cases n.dst with
    | some t => rfl
    | none => exact (eff_nil f).symm

/-- A step of a trace: the operation, its effect. -/
abbrev TStep := NOper × Option (List (Nat × D) × List (Nat × Bool)) × (List Nat × List Nat)

def Tr (C : Nat → List D → D → List D → Prop) : List TStep → (Nat → D) → (Nat → D) → Prop
  | [], f, f' => f' = f
  | (n, x, rd) :: ts, f, f' => StepX C n f x ∧ chk f n = true ∧ wOk (encR f n) (wsOf n x) (ksOf x) = true ∧ rd = (rdS n ++ rdR f n, mnR f n) ∧ Tr C ts (eff (wsOf n x) (ksOf x) f) f'

section
variable {C : Nat → List D → D → List D → Prop}

theorem tr_of {hs : List Nat} {K : Env → Prop} : ∀ (ns : List NOper) (e : Env) (acc : List (List Nat × List Nat)), wpNd C hs K ns e acc → ∃ (ts : List TStep) (e' : Env), ts.map (·.1) = ns ∧ Tr C ts (look e) (look e') ∧ indOk hs (acc.reverse ++ ts.map fun t => (t.2.2.1.map (2 * ·) ++ t.2.2.2.map (2 * · + 1), wrK (wsOf t.1 t.2.1) (ksOf t.2.1))) = true ∧ K e'
  | [], e, acc, h => ⟨[], e, rfl, rfl, by simpa using h.1, h.2⟩
  | n :: ns, e, acc, h => by
    obtain ⟨h0, h⟩ := h
    have fin : ∀ (x : Option (List (Nat × D) × List (Nat × Bool))) (e1 : Env), StepX C n (look e) x → wOk (encR (look e) n) (wsOf n x) (ksOf x) = true → look e1 = eff (wsOf n x) (ksOf x) (look e) → wpNd C hs K ns e1 ((encR (look e) n, wrK (wsOf n x) (ksOf x)) :: acc) →
        ∃ (ts : List TStep) (e' : Env), ts.map (·.1) = n :: ns ∧ Tr C ts (look e) (look e') ∧ indOk hs (acc.reverse ++ ts.map fun t => (t.2.2.1.map (2 * ·) ++ t.2.2.2.map (2 * · + 1), wrK (wsOf t.1 t.2.1) (ksOf t.2.1))) = true ∧ K e' := by
      intro x e1 h1 h2 h3 h4
      obtain ⟨ts, e', g1, g2, g3, g4⟩ := tr_of ns e1 _ h4
      refine ⟨(n, x, rdS n ++ rdR (look e) n, mnR (look e) n) :: ts, e', by simp [g1], ⟨h1, h0, h2, rfl, by rw [← h3]; exact g2⟩, ?_, g4⟩
      simpa [encR] using g3
    have run : (∀ s b, n.guard = some (s, b) → look e s = .bool b) → resX C (look e) n.dst (fun ws ks => wOk (encR (look e) n) ws ks = true ∧ wpNd C hs K ns (ws ++ killE ks e) ((encR (look e) n, wrK ws ks) :: acc)) n.op →
        ∃ (ts : List TStep) (e' : Env), ts.map (·.1) = n :: ns ∧ Tr C ts (look e) (look e') ∧ indOk hs (acc.reverse ++ ts.map fun t => (t.2.2.1.map (2 * ·) ++ t.2.2.2.map (2 * · + 1), wrK (wsOf t.1 t.2.1) (ksOf t.2.1))) = true ∧ K e' := by
      intro hg h1
      obtain ⟨ws, ks, ⟨h2, h3⟩, h4⟩ := resX_one h1
      exact fin (some (ws, ks)) _ ⟨hg, h4 _ ⟨rfl, rfl⟩⟩ h2 (look_eff ws ks e) h3
    have skp : ∀ s want, n.guard = some (s, want) → Skp want (look e s) → skipE e n.dst (fun e' => wpNd C hs K ns e' ((encR (look e) n, dstL n.dst) :: acc)) →
        ∃ (ts : List TStep) (e' : Env), ts.map (·.1) = n :: ns ∧ Tr C ts (look e) (look e') ∧ indOk hs (acc.reverse ++ ts.map fun t => (t.2.2.1.map (2 * ·) ++ t.2.2.2.map (2 * · + 1), wrK (wsOf t.1 t.2.1) (ksOf t.2.1))) = true ∧ K e' := by
      intro s want hg hb h1
      unfold skipE at h1
      split at h1
      · rename_i hd
        refine fin none e ⟨s, want, hg, hb⟩ (by simp [wOk, wsOf, ksOf, hd]) (by simp [wsOf, ksOf, hd, eff_nil]) ?_
        simpa [wsOf, ksOf, wrK, hd, dstL] using h1
      · rename_i t hd
        refine fin none ((t, .tup []) :: e) ⟨s, want, hg, hb⟩ (by simp [wOk, wsOf, ksOf, hd, mroots, mroots1]) ?_ ?_
        · have := look_eff [(t, .tup [])] [] e
          simp only [killE, if_true] at this
          simpa [wsOf, ksOf, hd] using this
        · simpa [wsOf, ksOf, wrK, hd, dstL] using h1
    split at h
    · rename_i hg
      exact run (fun s b e' => (by rw [hg] at e'; cases e')) h
    · rename_i s want hg
      split at h
      · rename_i b hb
        by_cases hbw : b = want
        · subst hbw
          exact run (fun s' b' e' => (by rw [hg] at e'; cases e'; exact hb)) (h.1 rfl)
        · have hb' : b = !want := by cases b <;> cases want <;> simp_all
          have h1 := h.2 hb'
          rw [hb'] at hb
          exact skp s want hg (.inl hb) h1
      · rename_i hb
        exact skp s want hg (.inr hb) h
      · exact h.elim

/-- The family of a trace's effects. -/
def famOf (hs : List Nat) (ts : List TStep) (f : Nat → D) : Fam where
  n := ts.length
  ws i := match ts[i]? with
    | some t => wsOf t.1 t.2.1
    | none => []
  ks i := match ts[i]? with
    | some t => ksOf t.2.1
    | none => []
  rd i := match ts[i]? with
    | some t => t.2.2.1
    | none => []
  mn i := match ts[i]? with
    | some t => t.2.2.2
    | none => []
  bef j i := (hs.getD j 0).testBit i
  f0 := f

theorem fam_shift (hs : List Nat) (t : TStep) (ts : List TStep) (f : Nat → D) : ∀ i, (famOf hs (t :: ts) f).St (i + 1) = (famOf hs ts (eff (wsOf t.1 t.2.1) (ksOf t.2.1) f)).St i
  | 0 => by simp [Fam.St, Fam.G, Fam.E, famOf]
  | i + 1 => by
    have ih := fam_shift hs t ts f i
    have e1 : ∀ (A : Fam) (m : Nat), A.St (m + 1) = A.E m (A.St m) := fun A m => by simp [Fam.St, Fam.G]
    rw [e1, ih, e1]
    simp [Fam.E, famOf]

theorem tr_spec (hs : List Nat) : ∀ (ts : List TStep) (f f' : Nat → D), Tr C ts f f' → f' = (famOf hs ts f).St ts.length ∧ ∀ (i : Nat) (t : TStep), ts[i]? = some t → StepX C t.1 ((famOf hs ts f).St i) t.2.1 ∧ chk ((famOf hs ts f).St i) t.1 = true ∧ wOk (t.2.2.1.map (2 * ·) ++ t.2.2.2.map (2 * · + 1)) (wsOf t.1 t.2.1) (ksOf t.2.1) = true ∧ t.2.2 = (rdS t.1 ++ rdR ((famOf hs ts f).St i) t.1, mnR ((famOf hs ts f).St i) t.1)
  | [], f, f', h => ⟨h, fun i t h => by simp at h⟩
  | (n, x, rd) :: ts, f, f', h => by
    obtain ⟨h1, h2, h3, rfl, h4⟩ := h
    obtain ⟨g1, g2⟩ := tr_spec hs ts _ f' h4
    refine ⟨by rw [List.length_cons, fam_shift]; exact g1, fun i t hi => ?_⟩
    cases i with
    | zero => simp at hi; subst hi; exact ⟨h1, h2, by simpa [encR] using h3, rfl⟩
    | succ i => rw [fam_shift]; exact g2 i t (by simpa using hi)

theorem fam_ok {hs : List Nat} {ts : List TStep} {f f' : Nat → D} (h : Tr C ts f f') (hi : indOk hs (ts.map fun t => (t.2.2.1.map (2 * ·) ++ t.2.2.2.map (2 * · + 1), wrK (wsOf t.1 t.2.1) (ksOf t.2.1))) = true) : (famOf hs ts f).Ok := by
  obtain ⟨_, hs'⟩ := tr_spec hs ts f f' h
  have get : ∀ i, i < ts.length → ∃ t, ts[i]? = some t := fun i hi => ⟨_, List.getElem?_eq_getElem hi⟩
  refine ⟨fun i hn k hk => ?_, fun i hn p hp b all hb => ?_, fun i hn k hk b all hb => ?_, fun i hn k hk => ?_, fun i j hij hn => ?_⟩
  · obtain ⟨t, ht⟩ := get i hn
    obtain ⟨_, _, h3, _⟩ := hs' i t ht
    simp only [famOf, ht] at hk
    simp only [Fam.W, famOf, ht]
    simp only [wOk, Bool.and_eq_true, List.all_eq_true] at h3
    exact List.contains_iff_mem.1 (h3.1 k hk)
  · obtain ⟨t, ht⟩ := get i hn
    obtain ⟨_, _, h3, _⟩ := hs' i t ht
    simp only [famOf, ht] at hp
    simp only [Fam.W, famOf, ht]
    simp only [wOk, Bool.and_eq_true, List.all_eq_true, Bool.or_eq_true] at h3
    rcases h3.2 p hp b (ment_roots hb) with h4 | h4
    · left
      have h5 := List.contains_iff_mem.1 h4
      rcases List.mem_append.1 h5 with h5 | h5
      · obtain ⟨x, _, h6⟩ := List.mem_map.1 h5
        omega
      · obtain ⟨x, h7, h6⟩ := List.mem_map.1 h5
        have : x = b := by omega
        subst this; exact h7
    · exact .inr (List.contains_iff_mem.1 h4)
  · obtain ⟨t, ht⟩ := get i hn
    obtain ⟨h1, h2, _, h4⟩ := hs' i t ht
    simp only [famOf, ht] at hk ⊢
    rw [h4] at hk ⊢
    simp only [chk, Bool.and_eq_true, List.all_eq_true] at h2
    rcases List.mem_append.1 hk with h5 | h5
    · simp only [rdS] at h5
      rcases List.mem_append.1 h5 with h6 | h6
      · obtain ⟨x, h7, h8⟩ := List.mem_flatMap.1 h6
        cases x with
        | t s =>
          simp only [opdSlots, List.mem_singleton] at h8
          subst h8
          refine List.mem_flatMap.2 ⟨_, h7, ?_⟩
          exact ment_roots hb
        | c d => simp [opdSlots] at h8
      · -- the guard's slot
        have : (∃ bb, (famOf hs ts f).St i k = .bool bb) ∨ (famOf hs ts f).St i k = .tup [] := by
          cases hg : t.1.guard with
          | none => rw [hg] at h6; simp [gSlot] at h6
          | some q =>
            obtain ⟨s, want⟩ := q
            rw [hg] at h6
            simp only [gSlot, List.mem_singleton] at h6
            subst h6
            unfold StepX at h1
            split at h1
            · exact .inl ⟨want, h1.1 k want hg⟩
            · obtain ⟨s', b', h7, h8⟩ := h1
              rw [hg] at h7; cases h7
              exact h8.imp (fun h8 => ⟨_, h8⟩) id
        simp only [famOf] at this hb
        rcases this with ⟨bb, hbb⟩ | hbb <;> rw [hbb] at hb <;> simp [ment, ment1] at hb
    · have h6 := h2.2 k h5
      simp only [famOf] at h6 hb
      have h7 : ∀ d : D, isB d = true → ment b all d = false := fun d hd => by cases d <;> first | rfl | (simp [isB] at hd)
      rw [h7 _ h6] at hb; cases hb
  · obtain ⟨t, ht⟩ := get i hn
    obtain ⟨h1, h2, _, h4⟩ := hs' i t ht
    simp only [famOf, ht] at hk ⊢
    rw [h4] at hk
    simp only [chk, Bool.and_eq_true, List.all_eq_true] at h2
    rcases List.mem_append.1 hk with h5 | h5
    · have := h2.1 k h5
      intro e
      simp only [famOf] at this
      rw [e] at this
      simp [isAny] at this
    · have := h2.2 k h5
      intro e
      simp only [famOf] at this
      rw [e] at this
      simp [isB] at this
  · obtain ⟨t, ht⟩ := get i (Nat.lt_trans hij hn)
    obtain ⟨u, hu⟩ := get j hn
    simp only [indOk, List.all_eq_true] at hi
    have h1 := hi ((t.2.2.1.map (2 * ·) ++ t.2.2.2.map (2 * · + 1), wrK (wsOf t.1 t.2.1) (ksOf t.2.1)), i) (List.mem_zipIdx_iff_getElem?.2 (by simp [ht])) ((u.2.2.1.map (2 * ·) ++ u.2.2.2.map (2 * · + 1), wrK (wsOf u.1 u.2.1) (ksOf u.2.1)), j) (List.mem_zipIdx_iff_getElem?.2 (by simp [hu]))
    simp only [Bool.or_eq_true, Bool.not_eq_true', decide_eq_false_iff_not, Bool.and_eq_true] at h1
    rcases h1 with (h1 | h1) | h1
    · exact absurd hij h1
    · exact .inl h1
    · right
      simp only [apartL, List.all_eq_true, Bool.and_eq_true, Bool.not_eq_true'] at h1
      have nm : ∀ {l : List Nat} {k : Nat}, l.contains k = false → k ∉ l := fun h hm => by
        have := List.contains_iff_mem.2 hm
        rw [h] at this; cases this
      have one : ∀ (a b : TStep) (x y : Nat), ts[x]? = some a → ts[y]? = some b → (∀ k ∈ wrK (wsOf a.1 a.2.1) (ksOf a.2.1), (b.2.2.1.map (2 * ·) ++ b.2.2.2.map (2 * · + 1)).contains k = false ∧ (wrK (wsOf b.1 b.2.1) (ksOf b.2.1)).contains k = false) → (famOf hs ts f).Apart x y := by
        intro a b x y ha hb hab
        refine ⟨fun k hk => ?_, fun k hk hm => ?_⟩
        · simp only [Fam.W, famOf, ha] at hk
          obtain ⟨p, hp, rfl⟩ := List.mem_map.1 hk
          obtain ⟨h2, h3⟩ := hab (2 * p.1) (List.mem_append.2 (.inl (List.mem_map.2 ⟨p, hp, rfl⟩)))
          refine ⟨fun hr => nm h2 (List.mem_append.2 (.inl (List.mem_map.2 ⟨_, ?_, rfl⟩))), fun hw => nm h3 (List.mem_append.2 (.inl ?_))⟩
          · simp only [famOf, hb] at hr; exact hr
          · simp only [Fam.W, famOf, hb] at hw
            obtain ⟨q, hq, e⟩ := List.mem_map.1 hw
            exact List.mem_map.2 ⟨q, hq, by rw [e]⟩
        · simp only [famOf, ha] at hk
          obtain ⟨h2, _⟩ := hab (2 * k.1 + 1) (List.mem_append.2 (.inr (List.mem_map.2 ⟨k, hk, rfl⟩)))
          refine nm h2 (List.mem_append.2 (.inr (List.mem_map.2 ⟨_, ?_, rfl⟩)))
          simp only [famOf, hb] at hm; exact hm
      exact ⟨one t u i j ht hu h1.1, one u t j i hu ht h1.2⟩
end

/-! ### Which orders there are -/
def uH (ops : Array Oper) (H : Array Nat) (j : Nat) : Nat := match ops[j]? with
  | some o => o.after.toList.foldl (fun s e => if Region.binds .any e then s ||| 2 ^ e.on ||| H.getD e.on 0 else s) 0
  | none => 0

def edgesOk (ops : Array Oper) (j : Nat) : Bool := match ops[j]? with
  | some o => o.after.toList.all fun e => !Region.binds .any e || decide (e.on < j)
  | none => true

theorem foldl_bits (H : Array Nat) (i : Nat) : ∀ (l : List Edge) (s : Nat), (l.foldl (fun s e => if Region.binds .any e then s ||| 2 ^ e.on ||| H.getD e.on 0 else s) s).testBit i = true →
    s.testBit i = true ∨ ∃ e ∈ l, Region.binds .any e = true ∧ (i = e.on ∨ (H.getD e.on 0).testBit i = true)
  | [], s, h => .inl h
  | e :: l, s, h => by
    simp only [List.foldl_cons] at h
    rcases foldl_bits H i l _ h with h1 | ⟨e', h1, h2⟩
    · split at h1
      · rename_i hb
        simp only [Nat.testBit_or, Bool.or_eq_true, Nat.testBit_two_pow, decide_eq_true_eq] at h1
        rcases h1 with (h1 | h1) | h1
        · exact .inl h1
        · exact .inr ⟨e, by simp, hb, .inl h1.symm⟩
        · exact .inr ⟨e, by simp, hb, .inr h1⟩
      · exact .inl h1
    · exact .inr ⟨e', by simp [h1], h2⟩

theorem uH_bits {ops : Array Oper} {H : Array Nat} {j i : Nat} (h : (uH ops H j).testBit i = true) : ∃ o, ops[j]? = some o ∧ ∃ e ∈ o.after.toList, Region.binds .any e = true ∧ (i = e.on ∨ (H.getD e.on 0).testBit i = true) := by
  unfold uH at h
  split at h
  · rename_i o ho
    rcases foldl_bits H i _ 0 h with h1 | h1
    · simp at h1
    · exact ⟨o, ho, h1⟩
  · simp at h


def drawOk (hs : List Nat) (ops : Array Oper) : Bool := (List.range ops.size).all fun j => hs.getD j 0 == uH ops hs.toArray j && edgesOk ops j

/-- How many have not come up yet. -/
def left (n : Nat) (l : Nat → Bool) : Nat := ((List.range n).filter fun i => !l i).length

theorem filter_lt {p q : Nat → Bool} {j : Nat} (hpq : ∀ i, q i = true → p i = true) (hp : p j = true) (hq : q j = false) : ∀ (l : List Nat), j ∈ l → (l.filter q).length < (l.filter p).length
  | [], h => by simp at h
  | i :: l, h => by
    have hle : (l.filter q).length ≤ (l.filter p).length := by
      clear h
      induction l with
      | nil => simp
      | cons x l ih =>
        simp only [List.filter_cons]
        cases hqx : q x with
        | true => simp [hpq x hqx, ih]
        | false => cases p x <;> simp <;> omega
    by_cases hij : i = j
    · subst hij
      simp [hp, hq]
      omega
    · have := filter_lt hpq hp hq l (by simpa [Ne.symm hij] using h)
      simp only [List.filter_cons]
      cases hqx : q i with
      | true => simp [hpq i hqx, this]
      | false => cases p i <;> simp <;> omega

section
variable {P : Program} {F : Fid} {C : Nat → List D → D → List D → Prop} {nt : Nat} {S : Nat → Prop} {L : Nat → Option Loc} {w0 : World} {M0 : Mem} {f : Nat → D} {M : Mem} {a : Act} {w : World} {Q : Exit → Act → World → Prop}

def lst (listed : Array Bool) : Nat → Bool := fun i => listed.getD i true

theorem mem_ready' {ops : Array Oper} {listed : Array Bool} {i : Nat} : i ∈ Region.ready .any ops listed ↔ i < ops.size ∧ lst listed i = false ∧ ∃ o, ops[i]? = some o ∧ ∀ e ∈ o.after, Region.binds .any e = true → listed.getD e.on false = true := by
  simp only [Region.ready, List.mem_filter, List.mem_range, Bool.and_eq_true, Bool.not_eq_true', lst]
  constructor
  · rintro ⟨h1, h2, h3⟩
    refine ⟨h1, h2, ops[i], Array.getElem?_eq_getElem h1, fun e he hb => ?_⟩
    rw [Array.getElem?_eq_getElem h1] at h3
    simp only [Option.map_some, Option.getD_some, Array.all_eq_true_iff_forall_mem, Bool.or_eq_true, Bool.not_eq_true'] at h3
    rcases h3 e he with h4 | h4
    · rw [hb] at h4; cases h4
    · exact h4
  · rintro ⟨h1, h2, o, h3, h4⟩
    refine ⟨h1, h2, ?_⟩
    rw [h3]
    simp only [Option.map_some, Option.getD_some, Array.all_eq_true_iff_forall_mem, Bool.or_eq_true, Bool.not_eq_true']
    intro e he
    cases hb : Region.binds .any e with
    | false => exact .inl rfl
    | true => exact .inr (h4 e he hb)


theorem getD_arr (hs : List Nat) (j : Nat) : hs.toArray.getD j 0 = hs.getD j 0 := by
  simp [Array.getD_eq_getD_getElem?, List.getD_eq_getElem?_getD]

theorem resX_near {f g : Nat → D} {n : NOper} {dst : Option Nat} {K : List (Nat × D) → List (Nat × Bool) → Prop} (hv : ∀ x ∈ opdsOf n.op, vd g x = vd f x) (hr : ∀ b ∈ rdR f n, g b = f b) (h : resX C f dst K n.op) : resX C g dst K n.op := by
  obtain ⟨d0, o, g0⟩ := n
  simp only at hv h ⊢
  have full : (∀ x ∈ opdsOf o, x ∈ opsN o) → resX C g dst K o := fun hN => resX_local hv (fun x hx b hb => hr b (List.mem_append.2 (.inl (List.mem_flatMap.2 ⟨x, hN x hx, ment_roots hb⟩)))) h
  cases o with
  | mov x => simp only [resX, res, hv x (by simp [opdsOf])] at h ⊢; exact h
  | nck x => simp only [resX, res, hv x (by simp [opdsOf])] at h ⊢; exact h
  | un op x => simp only [resX, res, hv x (by simp [opdsOf])] at h ⊢; exact h
  | conv k x => simp only [resX, res, hv x (by simp [opdsOf])] at h ⊢; exact h
  | fld a b c x => simp only [resX, res, hv x (by simp [opdsOf])] at h ⊢; exact h
  | ext i x => simp only [resX, res, hv x (by simp [opdsOf])] at h ⊢; exact h
  | fad i x => simp only [resX, res, hv x (by simp [opdsOf])] at h ⊢; exact h
  | boxF x => simp only [resX, res, hv x (by simp [opdsOf])] at h ⊢; exact h
  | blsF sz len zs ps =>
    have e : ∀ p ∈ ps, vd g p.2 = vd f p.2 := fun p hp => hv _ (List.mem_map.2 ⟨p, hp, rfl⟩)
    simp only [resX, res] at h ⊢
    rw [fillR_local e]
    exact ⟨fun p hp => by rw [e p hp]; exact h.1 p hp, h.2⟩
  | len x => simp only [resX, res, hv x (by simp [opdsOf])] at h ⊢; exact h
  | pick c x y => simp only [resX, res, hv c (by simp [opdsOf]), hv x (by simp [opdsOf]), hv y (by simp [opdsOf])] at h ⊢; exact h
  | bin op x y => simp only [resX, res, hv x (by simp [opdsOf]), hv y (by simp [opdsOf])] at h ⊢; exact h
  | iadA l s x i => simp only [resX, res, hv x (by simp [opdsOf]), hv i (by simp [opdsOf])] at h ⊢; exact h
  | bld zs ps =>
    have e : ∀ p ∈ ps, vd g p.2.2 = vd f p.2.2 := fun p hp => hv _ (List.mem_map.2 ⟨p, hp, rfl⟩)
    simp only [resX, res] at h ⊢
    obtain ⟨h1, h2, h3⟩ := h
    have e2 : (ps.all fun p => isV (vd g p.2.2)) = (ps.all fun p => isV (vd f p.2.2)) := by
      rw [Bool.eq_iff_iff, List.all_eq_true, List.all_eq_true]
      exact ⟨fun h p hp => by rw [← e p hp]; exact h p hp, fun h p hp => by rw [e p hp]; exact h p hp⟩
    have m1 : (ps.map fun p => (p.1, p.2.1, vd g p.2.2)) = ps.map fun p => (p.1, p.2.1, vd f p.2.2) := List.map_congr_left fun p hp => by rw [e p hp]
    have m2 : (ps.map fun p => (p.1, p.2.1, aggOf (vd g p.2.2))) = ps.map fun p => (p.1, p.2.1, aggOf (vd f p.2.2)) := List.map_congr_left fun p hp => by rw [e p hp]
    rw [e2, m1, m2]
    exact ⟨fun p hp => by rw [e p hp]; exact h1 p hp, h2, h3⟩
  | mk k xs =>
    have e : ∀ x ∈ xs, vd g x = vd f x := fun x hx => hv x hx
    simp only [resX, res] at h ⊢
    obtain ⟨h1, h2, h3⟩ := h
    have e2 : (xs.all fun x => isV (vd g x)) = (xs.all fun x => isV (vd f x)) := by
      rw [Bool.eq_iff_iff, List.all_eq_true, List.all_eq_true]
      exact ⟨fun h p hp => by rw [← e p hp]; exact h p hp, fun h p hp => by rw [e p hp]; exact h p hp⟩
    rw [e2, List.map_congr_left e]
    exact ⟨fun p hp => by rw [e p hp]; exact h1 p hp, h2, h3⟩
  | ld n ag x =>
    have e := hv x (by simp [opdsOf])
    simp only [resX, res, e] at h ⊢
    split at h
    · rename_i p i off ex
      rw [getP_local (p := p) (hr _ (List.mem_append.2 (.inr (List.mem_flatMap.2 ⟨x, by simp [ldN], by rw [ex]; simp [mroots1]⟩))))]
      exact h
    · exact h
    · exact h
    · exact h
  | _ => exact full (fun x hx => hx)

theorem any_order (hC : CSound P F C) (hL : NoL L) {hs : List Nat} {ops : Array Oper} {ts : List TStep} {f' : Nat → D} (htr : Tr C ts f f') (hok : (famOf hs ts f).Ok) (hlen : ts.length = ops.size) (hb : ∀ j, j < ops.size → hs.getD j 0 = uH ops hs.toArray j) (hed : ∀ (j : Nat) (o : Oper), ops[j]? = some o → ∀ e ∈ o.after, Region.binds .any e = true → e.on < j)
    (hk : ∀ (j : Nat) (t : TStep) (o : Oper), ts[j]? = some t → ops[j]? = some o → nopOk P F nt ops t.1 o = true)
    (hQ : ∀ M a w, SR F nt S L w0 M0 f' M a w → Q .normal a w) : ∀ (fuel : Nat) (listed : Array Bool) (M : Mem) (a : Act) (w : World), listed.size = ops.size → left ops.size (lst listed) ≤ fuel →
      (∀ j, j < ops.size → lst listed j = true → ∀ i, (hs.getD j 0).testBit i = true → i < ops.size ∧ lst listed i = true) → SR F nt S L w0 M0 ((famOf hs ts f).G (lst listed) ts.length) M a w → wpAny P .any ops Q fuel listed a w := by
  obtain ⟨hf', hsp⟩ := tr_spec hs ts f f' htr
  have hall : ∀ (listed : Array Bool), (∀ i, i < ops.size → lst listed i = true) → (famOf hs ts f).G (lst listed) ts.length = f' := by
    intro listed h
    rw [hf']
    unfold Fam.St
    have : ∀ m, m ≤ ts.length → (famOf hs ts f).G (lst listed) m = (famOf hs ts f).G (fun _ => true) m := by
      intro m
      induction m with
      | zero => intro _; rfl
      | succ m ih =>
        intro hm
        simp only [Fam.G]
        rw [h m (by omega), ih (by omega)]
        rfl
    exact this _ (Nat.le_refl _)
  intro fuel
  induction fuel with
  | zero =>
    intro listed M a w hs' hf hcl h
    have hal : ∀ i, i < ops.size → lst listed i = true := by
      intro i hi
      cases hl : lst listed i with
      | true => rfl
      | false =>
        have : i ∈ (List.range ops.size).filter fun i => !lst listed i := by simp [hi, hl]
        have := List.length_pos_of_mem this
        unfold left at hf
        omega
    refine ⟨?_, hQ M a w (by rw [← hall listed hal]; exact h)⟩
    rw [List.eq_nil_iff_forall_not_mem]
    intro i hi
    obtain ⟨h1, h2, _⟩ := mem_ready'.1 hi
    rw [hal i h1] at h2
    cases h2
  | succ fuel ih =>
    intro listed M a w hs' hf hcl h
    refine ⟨fun hr => hQ M a w ?_, fun j hj => ?_⟩
    · have hal : ∀ i, i < ops.size → lst listed i = true := by
        intro i
        induction i using Nat.strongRecOn with
        | _ i ihi =>
          intro hi
          cases hl : lst listed i with
          | true => rfl
          | false =>
            have : i ∈ Region.ready .any ops listed := mem_ready'.2 ⟨hi, hl, ops[i], Array.getElem?_eq_getElem hi, fun e he hb => by
              have h1 := hed i _ (Array.getElem?_eq_getElem hi) e he hb
              have h2 := ihi e.on h1 (by omega)
              unfold lst at h2
              rw [Array.getD_eq_getD_getElem?] at h2 ⊢
              rw [Array.getElem?_eq_getElem (by omega)] at h2 ⊢
              simpa using h2⟩
            rw [hr] at this
            cases this
      rw [← hall listed hal]
      exact h
    · obtain ⟨h1, h2, o, h3, h4⟩ := mem_ready'.1 hj
      obtain ⟨t, ht⟩ : ∃ t, ts[j]? = some t := ⟨ts[j]'(by omega), List.getElem?_eq_getElem (by omega)⟩
      -- all that must come before has come
      have hanc : ∀ i, (hs.getD j 0).testBit i = true → i < ops.size ∧ lst listed i = true := by
        intro i hi
        rw [hb j h1] at hi
        obtain ⟨o', ho', e, he, hbd, h5⟩ := uH_bits hi
        rw [h3] at ho'
        cases ho'
        have h6 := hed j o h3 e (by simpa using he) hbd
        have h7 := h4 e (by simpa using he) hbd
        have h8 : lst listed e.on = true := by
          unfold lst
          rw [Array.getD_eq_getD_getElem?] at h7 ⊢
          rw [Array.getElem?_eq_getElem (by omega)] at h7 ⊢
          simpa using h7
        rcases h5 with rfl | h5
        · exact ⟨by omega, h8⟩
        · rw [getD_arr] at h5
          exact hcl e.on (by omega) h8 i h5
      have hshut : Shut (famOf hs ts f) (lst listed) := fun j' hj' hl' i _ hbf => (hcl j' (by simpa [famOf, hlen] using hj') hl' i hbf).2
      have hjn : j < (famOf hs ts f).n := by simp only [famOf]; omega
      have hreads := hok.reads hshut hjn h2 (fun i _ hbf => (hanc i hbf).2)
      obtain ⟨g1, g2, g3, g4⟩ := hsp j t ht
      have hrd : (famOf hs ts f).rd j = t.2.2.1 := by simp [famOf, ht]
      have hn : (famOf hs ts f).n = ts.length := rfl
      rw [hrd, hn, g4] at hreads
      -- the step may come now
      have hstep : StepX C t.1 ((famOf hs ts f).G (lst listed) ts.length) t.2.1 := by
        have hv : ∀ x ∈ opdsOf t.1.op, vd ((famOf hs ts f).G (lst listed) ts.length) x = vd ((famOf hs ts f).St j) x := fun x hx => by
          cases x with
          | t s => exact hreads s (List.mem_append.2 (.inl (List.mem_append.2 (.inl (List.mem_flatMap.2 ⟨_, hx, by simp [opdSlots]⟩)))))
          | c d => rfl
        have ha : ∀ b ∈ rdR ((famOf hs ts f).St j) t.1, (famOf hs ts f).G (lst listed) ts.length b = (famOf hs ts f).St j b := fun b hb => hreads b (List.mem_append.2 (.inr hb))
        have hg : ∀ s b, t.1.guard = some (s, b) → (famOf hs ts f).G (lst listed) ts.length s = (famOf hs ts f).St j s := fun s b e =>
          hreads s (List.mem_append.2 (.inl (List.mem_append.2 (.inr (by rw [e]; simp [gSlot])))))
        unfold StepX at g1 ⊢
        split at g1
        · exact ⟨fun s b e => by rw [hg s b e]; exact g1.1 s b e, resX_near hv ha g1.2⟩
        · obtain ⟨s, b, e1, e2⟩ := g1
          exact ⟨s, b, e1, by rw [hg s b e1]; exact e2⟩
      have hlst : ∀ i, lst (listed.setIfInBounds j true) i = (if i = j then true else lst listed i) := by
        intro i
        unfold lst
        rw [Array.getD_eq_getD_getElem?, Array.getD_eq_getD_getElem?, Array.getElem?_setIfInBounds]
        by_cases hij : i = j
        · subst hij; simp [show i < listed.size from by omega]
        · simp [hij, Ne.symm hij]
      have hlst' : ∀ i, i ≠ j → lst (listed.setIfInBounds j true) i = lst listed i := fun i hi => by rw [hlst, if_neg hi]
      have hlstj : lst (listed.setIfInBounds j true) j = true := by rw [hlst, if_pos rfl]
      have hmore : (famOf hs ts f).G (lst (listed.setIfInBounds j true)) ts.length = effX t.1 t.2.1 ((famOf hs ts f).G (lst listed) ts.length) := by
        rw [effX_eq]
        have := hok.more hshut hjn h2 hlstj hlst'
        rw [hn] at this
        rw [this]
        simp [Fam.E, famOf, ht]
      have hfin : ∀ M' a' w', SR F nt S L w0 M0 (effX t.1 t.2.1 ((famOf hs ts f).G (lst listed) ts.length)) M' a' w' → wpAny P .any ops Q fuel (listed.setIfInBounds j true) a' w' := by
        intro M' a' w' h'
        refine ih _ M' a' w' (by simpa using hs') ?_ (fun j' hj' hl' i hi => ?_) (by rw [hmore]; exact h')
        · have : left ops.size (lst (listed.setIfInBounds j true)) < left ops.size (lst listed) := by
            refine filter_lt (j := j) (fun i hi => ?_) (by simp [h2]) (by simp [hlstj]) _ (by simpa using h1)
            by_cases hij : i = j
            · subst hij; simp [h2]
            · rw [hlst' i hij] at hi; exact hi
          omega
        · by_cases hjj : j' = j
          · subst hjj
            obtain ⟨q1, q2⟩ := hanc i hi
            refine ⟨q1, ?_⟩
            rw [hlst]; split
            · rfl
            · exact q2
          · rw [hlst' j' hjj] at hl'
            obtain ⟨q1, q2⟩ := hcl j' hj' hl' i hi
            refine ⟨q1, ?_⟩
            rw [hlst]; split
            · rfl
            · exact q2
      have := stepF hC hL (hk j t o ht h3) h hstep (R := wpAny P .any ops Q fuel (listed.setIfInBounds j true)) hfin (Q := Q)
      unfold wpOp
      rw [h3]
      exact this

theorem region_draw (hC : CSound P F C) (hL : NoL L) (hm : P.follows .mixedOrders = true) {hs : List Nat} {ops : Array Oper} {ns : List NOper} (hk : regOk P F nt ns ops = true) (hdr : drawOk hs ops = true) {id : Nat} {K : Env → Prop} {e : Env} (h : SR F nt S L w0 M0 (look e) M a w) (hr : wpNd C hs K ns e [])
    (hQ : ∀ e M a w, SR F nt S L w0 M0 (look e) M a w → K e → Q .normal a w) : (Code.region id ops true).wp P Q a w := by
  simp only [regOk, Bool.and_eq_true, beq_iff_eq, List.all_eq_true] at hk
  obtain ⟨ts, e', g1, g2, g3, g4⟩ := tr_of ns e [] hr
  have hlen : ts.length = ops.size := by
    have : ts.length = ns.length := by rw [← g1]; simp
    rw [this]; simpa using hk.1
  have hok := fam_ok g2 (by simpa using g3)
  simp only [drawOk, List.all_eq_true, List.mem_range, Bool.and_eq_true, beq_iff_eq] at hdr
  refine wp_region_any hm (any_order hC hL (hs := hs) g2 hok hlen (fun j hj => (hdr j hj).1) (fun j o ho e he hb => ?_) (fun j t o ht ho => ?_) (fun M a w hs => hQ e' M a w hs g4) _ _ M a _ (by simp) ?_ ?_ ?_)
  · obtain ⟨hj, _⟩ := Array.getElem?_eq_some_iff.1 ho
    have := (hdr j hj).2
    simp only [edgesOk, ho, List.all_eq_true, Bool.or_eq_true, Bool.not_eq_true', decide_eq_true_eq] at this
    rcases this e (by simpa using he) with h5 | h5
    · rw [hb] at h5; cases h5
    · exact h5
  · refine hk.2 (t.1, o) ?_
    rw [List.mem_iff_getElem?]
    refine ⟨j, ?_⟩
    rw [List.getElem?_zip_eq_some]
    refine ⟨?_, by simpa using ho⟩
    rw [← g1]
    simp [ht]
  · have := List.length_filter_le (fun i => !lst (Array.replicate ops.size false) i) (List.range ops.size)
    simpa [left] using this
  · intro j hj hl
    simp [lst, hj] at hl
  · have h0 : ∀ m, m ≤ ts.length → (famOf hs ts (look e)).G (lst (Array.replicate ops.size false)) m = look e := by
      intro m
      induction m with
      | zero => intro _; rfl
      | succ m ih =>
        intro hm
        simp only [Fam.G]
        rw [ih (by omega)]
        have : lst (Array.replicate ops.size false) m = false := by simp [lst, show m < ops.size from by omega]
        rw [this]; rfl
    rw [h0 _ (Nat.le_refl _)]
    exact h.grow (Bel.drew _)
end
end Go.Gv

namespace Go.Gv
open Go.RowKit

inductive NExit where
  | nrm
  | ext (id : Nat)
  | ret

inductive NCode where
  | skip
  | reg (draw : Bool) (hs : List Nat) (keep : List Nat) (ops : List NOper)
  | seq (a b : NCode)
  | cond (c : Opd) (x y : NCode)
  | block (id : Nat) (c : NCode)
  | loop (c : NCode)
  | exit (id : Nat)
  | ret
  deriving Inhabited

def keepS (keep : List Nat) (e : Env) : Env := keep.map fun t => (t, look e t)
def rootsOf (ks : Env) : List Nat := ks.flatMap fun p => mroots p.2
def addR (e : Env) : List Nat → Env → Env
  | [], ks => ks
  | r :: rs, ks => addR e rs (if (ks.map (·.1)).contains r then ks else ks ++ [(r, look e r)])
/-- Only the slots that are named are kept, and the roots to which they lead. -/
def prune (keep : List Nat) (e : Env) : Env := addR e (rootsOf (keepS keep e)) (keepS keep e)

/-- What is known of the second is known of the first. -/
def Weak (e : Env) : Env → Prop
  | [] => True
  | (t, d) :: r => look e t = d ∧ Weak e r

def wpN (C : Nat → List D → D → List D → Prop) : NCode → (NExit → Env → Prop) → Env → Prop
  | .skip, Q, e => Q .nrm e
  | .reg dr hs keep ops, Q, e => match dr with
    | false => wpNs C (fun e' => Q .nrm (prune keep e')) ops e
    | true => wpNd C hs (fun e' => Q .nrm (prune keep e')) ops e []
  | .seq x y, Q, e => wpN C x (fun t e' => match t with
    | .nrm => wpN C y Q e'
    | t => Q t e') e
  | .cond c x y, Q, e => match vd (look e) c with
    | .bool b => (b = true → wpN C x Q e) ∧ (b = false → wpN C y Q e)
    | .bb => wpN C x Q e ∧ wpN C y Q e
    | _ => False
  | .block id c, Q, e => wpN C c (fun t e' => match t with
    | .ext i => if i = id then Q .nrm e' else Q (.ext i) e'
    | t => Q t e') e
  | .loop c, Q, e => ∃ (S : Type) (G : S → Env) (I : S → Prop) (m : S → Nat) (s0 : S), I s0 ∧ Weak e (G s0) ∧
      ∀ s, I s → wpN C c (fun t e' => match t with
        | .nrm => ∃ s', I s' ∧ m s' < m s ∧ Weak e' (G s')
        | t => Q t e') (G s)
  | .exit id, Q, e => Q (.ext id) e
  | .ret, Q, e => Q .ret e

structure NFun where
  np : Nat
  nt : Nat
  res : List (Nat × Option (Nat × Bool))
  body : NCode
  deriving Inhabited

def params : Nat → List D → Env
  | _, [] => []
  | k, d :: ds => (k, d) :: params (k + 1) ds

/-- A result, seen from without. -/
def resD1 (e : Env) : Nat × Option (Nat × Bool) → D
  | (t, none) => dp (look e) (look e t)
  | (t, some (n, ag)) => match look e t with
    | .adr p i off => match getP (look e) p with
      | some (_, es) => pack ag n (((es[i]?.getD []).drop off).map cellV)
      | none => .any
    | _ => .any

def resP (e : Env) : Nat × Option (Nat × Bool) → Prop
  | (t, none) => t < 10000 ∧ dpOk (look e) (look e t)
  | (t, some (n, ag)) => t < 10000 ∧ match look e t with
    | .adr p i off => match getP (look e) p with
      | some (_, es) => off + n ≤ (es[i]?.getD []).length
      | none => False
    | _ => False

def retOk (rs : List (Nat × Option (Nat × Bool))) (d : D) (e : Env) : Prop :=
  (∀ r ∈ rs, resP e r) ∧ match rs with
  | [r] => resD1 e r = d
  | rs => d = .tup (rs.map (resD1 e))

/-- The result is all of a root: a row that is the caller's from now on. -/
def retOwn (rs : List (Nat × Option (Nat × Bool))) (sz : Nat) (es : List (List D)) (e : Env) : Prop :=
  0 < sz ∧ (∀ r ∈ es, ∀ c ∈ r, isF1 c = true) ∧ match rs with
  | [(t, none)] => t < 10000 ∧ match look e t with
    | .ref (.r b) k n => k = 0 ∧ n = es.length ∧ look e b = .blk sz es
    | .nils => es = []
    | _ => False
  | _ => False

/-- The results are new: flat, or rows of the frame's own. -/
def retNew (rs : List (Nat × Option (Nat × Bool))) (d : D) (e : Env) : Prop :=
  retOk rs d (prune (rs.map (·.1)) e) ∧ ∀ p ∈ prune (rs.map (·.1)) e, flatP p.2 ∧ (p.1 < 10000 → isB p.2 = false)
def lentEnv (x : D) (sz : Nat) (es : List (List D)) (ds : List D) : Env := (0, x) :: (params 1 ds ++ [(lentB, .blk sz es)])
/-- The result is a row of the frame's own, or what is left of one. -/
def retRow (rs : List (Nat × Option (Nat × Bool))) (sz : Nat) (es : List (List D)) (e : Env) : Prop :=
  0 < sz ∧ (∀ r ∈ es, ∀ c ∈ r, isF1 c = true) ∧ match rs with
  | [(t, none)] => t < 10000 ∧ match look e t with
    | .ref (.r b) k n => match look e b with
      | .blk sz' es' => sz' = sz ∧ k + n ≤ es'.length ∧ (es'.drop k).take n = es
      | _ => False
    | .nils => es = []
    | _ => False
  | _ => False
/-- A part of a result is handed over: what it is in the frame, and what it is from then on. -/
def handP (f : Nat → D) : D → D → Prop
  | .ref (.r b) k n, .own sz es => k = 0 ∧ n = es.length ∧ f b = .blk sz es
  | .adr (.r b) i off, .blk sz es => i = 0 ∧ off = 0 ∧ f b = .blk sz es
  | d, r => isV d = true ∧ r = d
def handL (f : Nat → D) : List D → List D → Prop
  | [], [] => True
  | d :: ds, r :: rs => handP f d r ∧ handL f ds rs
  | _, _ => False
def handB : D → List Nat
  | .ref (.r b) _ _ => [b]
  | .adr (.r b) _ _ => [b]
  | _ => []
/-- The results, of which some parts are handed over. -/
def retA (rs : List (Nat × Option (Nat × Bool))) (R : D) (e : Env) : Prop := match rs with
  | [(t, none)] => t < 10000 ∧ match look e t, R with
    | .agx ds, .agg Rs => handL (look e) ds Rs ∧ noDupN (ds.flatMap handB) = true
    | .ref p k n, .own sz es => handP (look e) (.ref p k n) (.own sz es)
    | .adr p k n, .blk sz es => handP (look e) (.adr p k n) (.blk sz es)
    | _, _ => False
  | rs => rs.length ≠ 1 ∧ (∀ r ∈ rs, r.1 < 10000 ∧ r.2 = none) ∧ match R with
    | .tup Rs => handL (look e) (rs.map fun r => look e r.1) Rs ∧ noDupN ((rs.map fun r => look e r.1).flatMap handB) = true
    | _ => False
/-- The contracts hold of all that the bodies yield. -/
def Closed (prog : Nat → Option NFun) (C : Nat → List D → D → List D → Prop) : Prop :=
  (∀ g nf ds d, prog g = some nf → ds.length = nf.np → wpN C nf.body (fun t e => (match t with
    | .ext _ => False
    | _ => True) ∧ retOk nf.res d e) (params 0 ds) → C g ds d []) ∧ (∀ g ds d, C g ds d [] → C g ds (forget d) []) ∧
  (∀ g nf ds sz es, prog g = some nf → ds.length = nf.np → wpN C nf.body (fun t e => (match t with
    | .ext _ => False
    | _ => True) ∧ retOwn nf.res sz es e) (params 0 ds) → C g ds .any [.own sz es]) ∧
  (∀ g nf ds d, prog g = some nf → ds.length = nf.np → wpN C nf.body (fun t e => (match t with
    | .ext _ => False
    | _ => True) ∧ retNew nf.res d e) (params 0 ds) → C g ds d [.nilp]) ∧
  (∀ g nf ds d sz es es', prog g = some nf → ds.length + 1 = nf.np → wpN C nf.body (fun t e => (match t with
    | .ext _ => False
    | _ => True) ∧ (0 < es'.length ∧ look e lentB = .blk sz es') ∧ retOk nf.res d ((lentB, .any) :: e)) (lentEnv (.adr (.r lentB) 0 0) sz es ds) → C g (.blk sz es :: ds) d [.blk sz es']) ∧
  (∀ g nf ds sz es es', prog g = some nf → ds.length + 1 = nf.np → (∀ d ∈ ds, isO d = false) → 0 < sz → wpN C nf.body (fun t e => (match t with
    | .ext _ => False
    | _ => True) ∧ retRow nf.res sz es' e) (lentEnv (.ref (.r lentB) 0 es.length) sz es ds) → C g (.own sz es :: ds) .any [.own sz es', .nils, .nils]) ∧
  ∀ g nf ds R, prog g = some nf → ds.length = nf.np → okR R = true → wpN C nf.body (fun t e => (match t with
    | .ext _ => False
    | _ => True) ∧ retA nf.res R e) (params 0 ds) → C g ds R [.nils]

/-! ### Against the model's code -/
def codeOk (P : Program) (F : Fid) (nt : Nat) : NCode → Code → Bool
  | .skip, .skip => true
  | .reg dr hs _ ns, .region _ ops dr' => dr == dr' && regOk P F nt ns ops && (!dr || drawOk hs ops)
  | .seq x y, .seq x' y' => codeOk P F nt x x' && codeOk P F nt y y'
  | .cond c x y, .cond c' x' y' => opdOk F c c' && codeOk P F nt x x' && codeOk P F nt y y'
  | .block i c, .block i' c' => i == i' && codeOk P F nt c c'
  | .loop c, .loop c' => codeOk P F nt c c'
  | .exit i, .exit i' => i == i'
  | .ret, .ret => true
  | _, _ => false

def resOk (P : Program) : Nat × Option (Nat × Bool) → ResultVar → Bool
  | (t, none), .tmp t' => t == t'
  | (t, some (n, ag)), .cell t' ty => t == t' && tyS P ty n ag
  | _, _ => false

def funOk (P : Program) (F : Fid) (fi : Nat) (nf : NFun) : Bool := match P.funcs[fi]? with
  | some fn => fn.ntmps == nf.nt && fn.params.size + fn.nfree == nf.np && decide (nf.np ≤ nf.nt) && decide (nf.nt ≤ 10000) && nf.res.length == fn.results.toList.length && ((nf.res.zip fn.results.toList).all fun p => resOk P p.1 p.2) &&
    !(fn.name == "runtime.NumGoroutine") && match fn.body with
    | some c => codeOk P F nf.nt nf.body c
    | none => false
  | none => false

section
variable {P : Program} {F : Fid} {C : Nat → List D → D → List D → Prop} {nt : Nat} {S : Nat → Prop} {L : Nat → Option Loc} {w0 : World} {M0 : Mem} {f : Nat → D} {M : Mem} {a : Act} {w : World} {Q : Exit → Act → World → Prop} {ρ : Pa → Loc} {ω : Nat → Option Pa}

theorem look_mem {e : Env} {t : Nat} {d : D} (h : look e t = d) (hd : d ≠ .any) : (t, d) ∈ e := by
  induction e with
  | nil => exact absurd h.symm hd
  | cons p e ih =>
    obtain ⟨s, x⟩ := p
    simp only [look] at h
    split at h
    · rename_i e1; subst e1; subst h; simp
    · simp [ih h]

theorem look_weak {e : Env} : ∀ {e' : Env}, (∀ p ∈ e', look e p.1 = p.2) → ∀ t, look e' t = .any ∨ look e' t = look e t
  | [], _, t => .inl rfl
  | (s, d) :: r, h, t => by
    simp only [look]
    by_cases hs : s = t
    · subst hs
      rw [if_pos rfl]
      exact .inr (h (s, d) (by simp)).symm
    · rw [if_neg hs]
      exact look_weak (fun p hp => h p (by simp [hp])) t

theorem addR_mem {e : Env} : ∀ (rs : List Nat) (ks : Env), (∀ p ∈ ks, look e p.1 = p.2) → ∀ p ∈ addR e rs ks, look e p.1 = p.2
  | [], ks, h => h
  | r :: rs, ks, h => by
    refine addR_mem rs _ ?_
    split
    · exact h
    · intro p hp
      rcases List.mem_append.1 hp with h1 | h1
      · exact h p h1
      · simp at h1; subst h1; rfl

theorem SR.prune {e : Env} (h : SR F nt S L w0 M0 (look e) M a w) (keep : List Nat) : SR F nt S L w0 M0 (look (prune keep e)) M a w :=
  h.weak (look_weak (addR_mem _ _ (fun p hp => by obtain ⟨t, _, rfl⟩ := List.mem_map.1 hp; rfl)))

theorem weak_mem {e : Env} : ∀ {e' : Env}, Weak e e' → ∀ p ∈ e', look e p.1 = p.2
  | [], _, p, hp => by cases hp
  | (s, d) :: r, h, p, hp => by
    rcases List.mem_cons.1 hp with rfl | hp
    · exact h.1
    · exact weak_mem h.2 p hp

theorem SR.weakL {e e' : Env} (h : SR F nt S L w0 M0 (look e) M a w) (hw : Weak e e') : SR F nt S L w0 M0 (look e') M a w := h.weak (look_weak (weak_mem hw))

/-- How a post over data is one over frames. -/
def QM (F : Fid) (nt : Nat) (S : Nat → Prop) (L : Nat → Option Loc) (w0 : World) (M0 : Mem) (Q : NExit → Env → Prop) : Exit → Act → World → Prop
  | .normal, a, w => ∃ e M, SR F nt S L w0 M0 (look e) M a w ∧ Q .nrm e
  | .exit id, a, w => ∃ e M, SR F nt S L w0 M0 (look e) M a w ∧ Q (.ext id) e
  | .ret, a, w => ∃ e M, SR F nt S L w0 M0 (look e) M a w ∧ Q .ret e
  | _, _, _ => False

theorem wpN_sound (hC : CSound P F C) (hL : NoL L) (hm : P.follows .mixedOrders = true) : ∀ (nc : NCode) (c : Code), codeOk P F nt nc c = true → ∀ (Q : NExit → Env → Prop) (e : Env) (M : Mem) (a : Act) (w : World),
    SR F nt S L w0 M0 (look e) M a w → wpN C nc Q e → c.wp P (QM F nt S L w0 M0 Q) a w
  | .skip, c, hk, Q, e, M, a, w, h, hw => by
    cases c <;> simp only [codeOk, Bool.false_eq_true] at hk
    exact wp_skip ⟨e, M, h, hw⟩
  | .reg dr hs keep ns, c, hk, Q, e, M, a, w, h, hw => by
    cases c <;> simp only [codeOk, Bool.false_eq_true] at hk
    rename_i id ops dr'
    simp only [Bool.and_eq_true, beq_iff_eq, Bool.or_eq_true, Bool.not_eq_true'] at hk
    obtain ⟨⟨rfl, h1⟩, h2⟩ := hk
    have hQ : ∀ e M a w, SR F nt S L w0 M0 (look e) M a w → Q .nrm (prune keep e) → QM F nt S L w0 M0 Q .normal a w := fun e M a w hs hq => ⟨_, M, hs.prune keep, hq⟩
    cases dr with
    | false => exact region_text hC hL h1 h hw hQ
    | true => exact region_draw hC hL hm h1 (by simpa using h2) h hw hQ
  | .seq x y, c, hk, Q, e, M, a, w, h, hw => by
    cases c <;> simp only [codeOk, Bool.false_eq_true] at hk
    rename_i x' y'
    simp only [Bool.and_eq_true] at hk
    refine wp_seq (wp_mono (wpN_sound hC hL hm x x' hk.1 _ e M a w h hw) ?_)
    intro t a' w' hq
    cases t <;> simp only [QM, Exit.then] at hq ⊢
    · obtain ⟨e', M', h1, h2⟩ := hq
      exact wpN_sound hC hL hm y y' hk.2 Q e' M' a' w' h1 h2
    all_goals exact hq
  | .cond c x y, c', hk, Q, e, M, a, w, h, hw => by
    cases c' <;> simp only [codeOk, Bool.false_eq_true] at hk
    rename_i c' x' y'
    simp only [Bool.and_eq_true] at hk
    simp only [wpN] at hw
    split at hw
    · rename_i b hb
      have h1 := h.opd hk.1.1 (by rw [hb]; rfl)
      rw [hb] at h1
      simp only [RepC] at h1
      cases b with
      | true => exact wp_cond_true h1 (wpN_sound hC hL hm x x' hk.1.2 Q e M a w h (hw.1 rfl))
      | false => exact wp_cond_false h1 (wpN_sound hC hL hm y y' hk.2 Q e M a w h (hw.2 rfl))
    · rename_i hb
      have h1 := h.opd hk.1.1 (by rw [hb]; rfl)
      rw [hb] at h1
      simp only [RepC] at h1
      obtain ⟨b, h1⟩ := h1
      cases b with
      | true => exact wp_cond_true h1 (wpN_sound hC hL hm x x' hk.1.2 Q e M a w h hw.1)
      | false => exact wp_cond_false h1 (wpN_sound hC hL hm y y' hk.2 Q e M a w h hw.2)
    · exact hw.elim
  | .block i x, c, hk, Q, e, M, a, w, h, hw => by
    cases c <;> simp only [codeOk, Bool.false_eq_true] at hk
    rename_i i' x'
    simp only [Bool.and_eq_true, beq_iff_eq] at hk
    obtain ⟨rfl, hk⟩ := hk
    refine wp_block (wp_mono (wpN_sound hC hL hm x x' hk _ e M a w h hw) ?_)
    intro t a' w' hq
    cases t <;> simp only [QM, Exit.inBlock] at hq ⊢
    case exit j =>
      obtain ⟨e', M', h1, h2⟩ := hq
      split at h2
      · rename_i hj; rw [if_pos hj]; exact ⟨e', M', h1, h2⟩
      · rename_i hj; rw [if_neg hj]; exact ⟨e', M', h1, h2⟩
    all_goals exact hq
  | .loop x, c, hk, Q, e, M, a, w, h, hw => by
    cases c <;> simp only [codeOk, Bool.false_eq_true] at hk
    rename_i x'
    obtain ⟨ST, G, I, m, s0, h0, hw0, hround⟩ := hw
    -- the relation over frames; the measure is the least one of those that fit
    let fits : Act → World → Nat → Prop := fun a w n => ∃ s M, I s ∧ SR F nt S L w0 M0 (look (G s)) M a w ∧ m s = n
    have hmin : ∀ a w n, fits a w n → ∃ k, fits a w k ∧ ∀ k', fits a w k' → k ≤ k' := by
      intro a w n
      induction n using Nat.strongRecOn with
      | _ n ih =>
        intro hn
        by_cases hl : ∃ k, k < n ∧ fits a w k
        · obtain ⟨k, hk, hf⟩ := hl
          exact ih k hk hf
        · exact ⟨n, hn, fun k' hk' => Nat.le_of_not_lt fun hlt => hl ⟨k', hlt, hk'⟩⟩
    let mu : Act → World → Nat := fun a w => Classical.epsilon fun k => fits a w k ∧ ∀ k', fits a w k' → k ≤ k'
    have hmu : ∀ a w n, fits a w n → fits a w (mu a w) ∧ ∀ k', fits a w k' → mu a w ≤ k' := fun a w n hn => Classical.epsilon_spec (hmin a w n hn)
    refine wp_loop (fun a w => ∃ n, fits a w n) mu ⟨_, s0, M, h0, h.weakL hw0, rfl⟩ ?_
    rintro a w ⟨n, hn⟩
    obtain ⟨⟨s, M, hI, hs, hms⟩, _⟩ := hmu a w n hn
    refine wp_mono (wpN_sound hC hL hm x x' hk _ (G s) M a w hs (hround s hI)) ?_
    intro t a' w' hq
    cases t <;> simp only [QM, Exit.then] at hq ⊢
    · obtain ⟨e', M', h1, s', h2, h3, h4⟩ := hq
      have hf : fits a' w' (m s') := ⟨s', M', h2, h1.weakL h4, rfl⟩
      exact ⟨⟨_, hf⟩, Nat.lt_of_le_of_lt ((hmu a' w' _ hf).2 _ hf) (by omega)⟩
    all_goals exact hq
  | .exit i, c, hk, Q, e, M, a, w, h, hw => by
    cases c <;> simp only [codeOk, Bool.false_eq_true] at hk
    rename_i i'
    simp only [beq_iff_eq] at hk
    subst hk
    exact wp_exit ⟨e, M, h, hw⟩
  | .ret, c, hk, Q, e, M, a, w, h, hw => by
    cases c <;> simp only [codeOk, Bool.false_eq_true] at hk
    exact wp_ret ⟨e, M, h, hw⟩

/-! ### Functions -/
theorem look_params : ∀ (ds : List D) (k t : Nat), look (params k ds) t = if k ≤ t then (ds[t - k]?).getD .any else .any
  | [], k, t => by simp [params, look]
  | d :: ds, k, t => by
    simp only [params, look]
    by_cases h : k = t
    · subst h; simp
    · rw [if_neg h, look_params ds (k + 1) t]
      by_cases hk : k ≤ t
      · rw [if_pos hk, if_pos (by omega)]
        rw [show t - k = (t - (k + 1)) + 1 from by omega]
        simp
      · rw [if_neg hk, if_neg (by omega)]


theorem start_SR {ds : List D} {vs : List Value} (r : RepL F M ds vs) (hh : ∀ p v, M p = some v → w.cell? p = some v) (hl : ds.length ≤ nt) (hnt : nt ≤ 10000) :
    SR F nt (fun _ => False) (fun _ => none) w M (look (params 0 ds)) M { tmps := vs.toArray ++ Array.replicate (nt - vs.toArray.size) undef, defers := [] } w where
  hnt := hnt
  size := by have := r.length; simp; omega
  defers := rfl
  ch := Ch.refl _ _
  holds := hh
  ext := Mem.le_refl _
  fresh p h1 h2 := absurd h1 h2
  own := by
    have big : ∀ b, 10000 ≤ b → look (params 0 ds) b = .any := fun b hb => by
      rw [look_params]
      simp [List.getElem?_eq_none (show ds.length ≤ b by omega)]
    refine ⟨fun _ => default, fun _ => none, ⟨fun t _ => ?_, fun b sz es hb e => ?_, fun b kt et ks vs hb e => ?_, fun k p e => (by cases e), fun k p e => (by cases e), fun p q e => (by cases e), fun b l _ e => (by cases e)⟩⟩
    · by_cases ht : t < ds.length
      · have hd : look (params 0 ds) t = ds[t] := by rw [look_params]; simp [ht]
        obtain ⟨v, hv, rv⟩ := r.get (List.getElem?_eq_getElem ht)
        refine .inr ⟨v, ?_, by rw [hd]; exact RepV.of_pure rv⟩
        have : t < vs.length := by rw [r.length]; exact ht
        simp only [Array.getElem?_append, List.size_toArray, this, if_true, List.getElem?_toArray]
        exact hv
      · exact .inl (by rw [look_params]; simp [ht])
    · rw [big b hb] at e; cases e
    · rw [big b hb] at e; cases e

theorem run_results {e : Env} (h : SR F nt S L w0 M0 (look e) M a w) (hO : Own F L (NewB S w0) (look e) M a w ρ ω) (g : ResultVar → Sem Value) (hg1 : ∀ t, g (.tmp t) = pure (a.tmps.getD t undef)) (hg2 : ∀ x t, g (.cell x t) = (do loadVar t (← asAddr (a.tmps.getD x undef)))) :
    ∀ (rs : List (Nat × Option (Nat × Bool))) (rvs : List ResultVar), rs.length = rvs.length → (∀ p ∈ rs.zip rvs, resOk P p.1 p.2 = true) → (∀ r ∈ rs, resP e r) →
    ∃ vs : List Value, (rvs.mapM g).run P w = .ok vs w ∧ RepL F (Mplus ω M w) (rs.map (resD1 e)) vs
  | [], [], _, _, _ => ⟨[], rfl, by simp [RepL]⟩
  | r :: rs, rv :: rvs, hl, hk, hv => by
    obtain ⟨vs, h1, h2⟩ := run_results h hO g hg1 hg2 rs rvs (by simpa using hl) (fun p hp => hk p (by simp [hp])) (fun r hr => hv r (by simp [hr]))
    have hr := hk (r, rv) (by simp)
    have hvr := hv r (by simp)
    have one : ∃ v, (g rv).run P w = .ok v w ∧ RepC F (Mplus ω M w) (resD1 e r) v := by
      unfold resOk at hr
      split at hr
      · rename_i t t' e1 e2
        simp only [beq_iff_eq] at hr
        subst hr
        simp only at e1
        subst e1
        simp only at e2
        rw [e2, hg1]
        refine ⟨_, rfl, ?_⟩
        simp only [resP] at hvr
        have := hO.opd (x := .t t) (y := .tmp t) (by simp [opdOk, hvr.1])
        simp only [vd] at this
        exact dp_rep hO this hvr.2
      · rename_i t n ag t' ty e1 e2
        simp only [Bool.and_eq_true, beq_iff_eq] at hr
        obtain ⟨rfl, hty⟩ := hr
        simp only at e1
        subst e1
        simp only [resP] at hvr
        obtain ⟨ht, hvr⟩ := hvr
        split at hvr
        · rename_i p i off ex
          split at hvr
          · rename_i sz es hg
            have hx := hO.opd (x := .t t) (y := .tmp t) (by simp [opdOk, ht])
            simp only [vd] at hx
            rw [ex, repV_of rfl] at hx
            simp only [RepR] at hx
            have hpos : 0 < n ∨ n = 0 := by omega
            cases hi : es[i]? with
            | none =>
              rw [hi] at hvr
              simp at hvr
              obtain ⟨rfl, rfl⟩ := hvr
              cases ag with
              | false => have := tyS_one hty; omega
              | true =>
                refine ⟨.agg #[], ?_, ?_⟩
                · have := run_loadAt (P := P) (w := w) hty (a := ⟨(ρ p).blk, (ρ p).base + i * (ρ p).sz + 0, none⟩) (vs := []) (by simp) (by simp)
                  simp only [Instr.loadAt, Instr.sureAddr, Sem.run_bind, Sem.run_pure, Result.andThen_ok] at this
                  simp only at e2
                  have ea : a.tmps.getD t undef = a.eval (.tmp t) := rfl
                  rw [e2, hg2, ea, hx]
                  simp only [asAddr, Sem.run_bind, Sem.run_pure, Result.andThen_ok, this]
                  simp
                · simp [resD1, ex, hg, hi, pack, RepC, RepL]
            | some r =>
              rw [hi] at hvr
              simp only [Option.getD_some] at hvr
              obtain ⟨us, T, hω, h0, hl, g1, g2, g3, g4⟩ := hO.row (getP_big hO hg) hg hi
              rw [h0] at hx
              refine ⟨if ag then .agg ((us.drop ((ρ p).base + i * sz + off)).take n).toArray else (us.drop ((ρ p).base + i * sz + off)).headD undef, ?_, ?_⟩
              · have := run_loadAt (P := P) (w := w) hty (a := ⟨(ρ p).blk, (ρ p).base + i * sz + off, none⟩) (vs := us.drop ((ρ p).base + i * sz + off)) (fun j v hj => by
                  rw [addr_add]
                  rw [List.getElem?_drop] at hj
                  simp [World.cell?, g1, hj]) (by simp; omega)
                simp only [Instr.loadAt, Instr.sureAddr, Sem.run_bind, Sem.run_pure, Result.andThen_ok] at this
                simp only at e2
                have ea : a.tmps.getD t undef = a.eval (.tmp t) := rfl
                rw [e2, hg2, ea, hx]
                simp only [asAddr, Sem.run_bind, Sem.run_pure, Result.andThen_ok, this]
              · simp only [resD1, ex, hg, hi, Option.getD_some]
                have hrl : RepL F (Mplus ω M w) ((r.drop off).map cellV) ((us.drop ((ρ p).base + i * sz + off)).take (sz - off)) := RepL.of_forall' (by simp; omega) (fun j d v e1 e3 => by
                  rw [List.getElem?_map, Option.map_eq_some_iff] at e1
                  obtain ⟨d', e1, rfl⟩ := e1
                  rw [List.getElem?_drop] at e1
                  obtain ⟨u, k1, k2⟩ := g4 _ _ e1
                  rw [List.getElem?_take] at e3
                  split at e3
                  · rw [List.getElem?_drop, Nat.add_assoc] at e3
                    rw [k1] at e3; cases e3
                    exact cellV_rep hO k2
                  · cases e3)
                have hpk := pack_rep hrl ag n
                cases ag with
                | true =>
                  simp only [if_true] at hpk ⊢
                  rw [List.take_take, Nat.min_eq_left (by omega)] at hpk
                  exact hpk
                | false =>
                  have := tyS_one hty
                  simp only [Bool.false_eq_true, if_false] at hpk ⊢
                  have e3 : ((us.drop ((ρ p).base + i * sz + off)).take (sz - off)).headD undef = (us.drop ((ρ p).base + i * sz + off)).headD undef := by
                    cases us.drop ((ρ p).base + i * sz + off) with
                    | nil => simp
                    | cons x xs =>
                      rw [show sz - off = (sz - off - 1) + 1 from by omega]
                      simp
                  rw [e3] at hpk
                  exact hpk
          · exact hvr.elim
        · exact hvr.elim
      · cases hr
    obtain ⟨v, h3, h4⟩ := one
    refine ⟨v :: vs, by simp [List.mapM_cons, h3, h1], ?_⟩
    simp only [List.map_cons, RepL]
    exact ⟨v, vs, rfl, h4, h2⟩

/-- What a body yields, the call yields. -/
theorem fun_sound (hC : CSound P F C) (hm : P.follows .mixedOrders = true) {fi : Nat} {nf : NFun} (hk : funOk P F fi nf = true) {ds : List D} {d : D} (hl : ds.length = nf.np)
    (hw : wpN C nf.body (fun t e => (match t with
      | .ext _ => False
      | _ => True) ∧ retOk nf.res d e) (params 0 ds)) : RunsD P F fi ds d := by
  intro M w vs hh r
  unfold funOk at hk
  split at hk
  · rename_i fn hfn
    simp only [Bool.and_eq_true, beq_iff_eq, List.all_eq_true, decide_eq_true_eq, Bool.not_eq_true'] at hk
    obtain ⟨⟨⟨⟨⟨⟨⟨h1, h2⟩, h3⟩, h3'⟩, h4⟩, h5⟩, h6⟩, h7⟩ := hk
    split at h7
    · rename_i c hc
      have hs := start_SR (nt := nf.nt) r hh (by omega) h3'
      have hwp := wpN_sound hC (fun _ _ _ => rfl) hm nf.body c h7 _ _ M _ w hs hw
      refine calls_of_wp hfn hc ?_
      rw [h1]
      refine wp_mono hwp ?_
      have fin : ∀ (a' : Act) (w' : World), (∃ e M', SR F nf.nt (fun _ => False) (fun _ => none) w M (look e) M' a' w' ∧ retOk nf.res d e) → a'.defers = [] ∧ ∃ v, (results fn a'.tmps).run P w' = .ok v w' ∧
          (∃ v' M', Ending.returned v = .returned v' ∧ Bel w w' ∧ M.le M' ∧ (∀ p, M p = none → M' p ≠ none → w.heap.size ≤ p.block) ∧ (∀ p v, M' p = some v → w'.cell? p = some v) ∧ RepC F M' d v') := by
        rintro a' w' ⟨e, M', hs', hr1, hr2⟩
        refine ⟨hs'.defers, ?_⟩
        obtain ⟨ρ, ω, hO⟩ := hs'.own
        obtain ⟨us, k1, k2⟩ := run_results (P := P) hs' hO (fun
          | .tmp t => pure (a'.tmps.getD t undef)
          | .cell x t => do loadVar t (← asAddr (a'.tmps.getD x undef))) (fun _ => rfl) (fun _ _ => rfl) nf.res fn.results.toList h4 h5 hr1
        have hrun : (results fn a'.tmps).run P w' = .ok (if h : us.toArray.size = 1 then us.toArray[0] else .tuple us.toArray) w' := by
          unfold results
          rw [Sem.run_bind, Array.mapM_eq_mapM_toList]
          have k1' : ((fn.results.toList.mapM fun
            | .tmp t => pure (a'.tmps.getD t undef)
            | .cell x t => do loadVar t (← asAddr (a'.tmps.getD x undef)) : Sem (List Value))).run P w' = .ok us w' := k1
          simp only [Sem.run_map]
          erw [k1']
          rfl
        refine ⟨_, hrun, _, Mplus ω M' w', rfl, hs'.ch.below (fun _ _ h => h), Mem.le_trans hs'.ext (Mplus_le hO), fun p hp hq => ?_, Mplus_holds hs'.holds, ?_⟩
        · unfold Mplus at hq
          split at hq
          · rename_i q hq'
            rcases hO.new _ _ hq' with h | h
            · exact h.elim
            · exact h
          · exact (hs'.fresh p hp hq).elim False.elim id
        have hlen := k2.length
        simp only [List.length_map] at hlen
        split at hr2
        · rename_i r1 hres
          rw [hres] at k2 hlen
          simp only [List.map_cons, List.map_nil, RepL] at k2
          obtain ⟨v, r', rfl, k3, rfl⟩ := k2
          rw [← hr2]
          simpa using k3
        · rename_i hne
          have : ¬ us.toArray.size = 1 := by
            intro h'
            have : nf.res.length = 1 := by rw [← hlen]; simpa using h'
            match hq : nf.res, this with
            | [x], _ => exact hne x hq
          rw [dif_neg this, hr2]
          simp only [RepC]
          exact ⟨us, rfl, k2⟩
      intro t a' w' hq
      cases t <;> simp only [QM] at hq
      · obtain ⟨e, M', q1, _, q2⟩ := hq
        exact fin a' w' ⟨e, M', q1, q2⟩
      · obtain ⟨e, M', q1, q2, _⟩ := hq
        exact q2.elim
      · obtain ⟨e, M', q1, _, q2⟩ := hq
        exact fin a' w' ⟨e, M', q1, q2⟩
    · cases h7
  · cases hk

/-- What a body yields, the call yields: new things alone. -/
theorem fun_soundG (hC : CSound P F C) (hm : P.follows .mixedOrders = true) {fi : Nat} {nf : NFun} (hk : funOk P F fi nf = true) {ds : List D} {d : D} (hl : ds.length = nf.np)
    (hw : wpN C nf.body (fun t e => (match t with
      | .ext _ => False
      | _ => True) ∧ retNew nf.res d e) (params 0 ds)) : RunsG P F fi ds d := by
  intro M w vs hh r
  unfold funOk at hk
  split at hk
  · rename_i fn hfn
    simp only [Bool.and_eq_true, beq_iff_eq, List.all_eq_true, decide_eq_true_eq, Bool.not_eq_true'] at hk
    obtain ⟨⟨⟨⟨⟨⟨⟨h1, h2⟩, h3⟩, h3'⟩, h4⟩, h5⟩, h6⟩, h7⟩ := hk
    split at h7
    · rename_i c hc
      have hs := start_SR (nt := nf.nt) r hh (by omega) h3'
      have hwp := wpN_sound hC (fun _ _ _ => rfl) hm nf.body c h7 _ _ M _ w hs hw
      refine calls_of_wp hfn hc ?_
      rw [h1]
      refine wp_mono hwp ?_
      have fin : ∀ (a' : Act) (w' : World), (∃ e M', SR F nf.nt (fun _ => False) (fun _ => none) w M (look e) M' a' w' ∧ retNew nf.res d e) → a'.defers = [] ∧ ∃ v, (results fn a'.tmps).run P w' = .ok v w' ∧
          (∃ v' M2, Ending.returned v = .returned v' ∧ Bel w w' ∧ (∀ p, M2 p ≠ none → w.heap.size ≤ p.block) ∧ (∀ p v, M2 p = some v → w'.cell? p = some v) ∧ RepC F M2 d v') := by
        rintro a' w' ⟨e0, M1, hs0, ⟨hr1, hr2⟩, hfl⟩
        obtain ⟨e, he⟩ : ∃ e, e = prune (nf.res.map (·.1)) e0 := ⟨_, rfl⟩
        rw [← he] at hr1 hr2 hfl
        have hlk : ∀ t, look e t = .any ∨ (t, look e t) ∈ e := fun t => by
          by_cases h : look e t = .any
          · exact .inl h
          · exact .inr (look_mem rfl h)
        have hs1 : SR F nf.nt (fun _ => False) (fun _ => none) w M (look e) M1 a' w' := by rw [he]; exact hs0.prune _
        have hs' := hs1.flat (fun t => by
          rcases hlk t with h | h
          · rw [h]; trivial
          · exact (hfl _ h).1) (fun t ht => by
          rcases hlk t with h | h
          · rw [h]; rfl
          · exact (hfl _ h).2 ht)
        refine ⟨hs'.defers, ?_⟩
        obtain ⟨ρ, ω, hO⟩ := hs'.own
        obtain ⟨us, k1, k2⟩ := run_results (P := P) hs' hO (fun
          | .tmp t => pure (a'.tmps.getD t undef)
          | .cell x t => do loadVar t (← asAddr (a'.tmps.getD x undef))) (fun _ => rfl) (fun _ _ => rfl) nf.res fn.results.toList h4 h5 hr1
        have hrun : (results fn a'.tmps).run P w' = .ok (if h : us.toArray.size = 1 then us.toArray[0] else .tuple us.toArray) w' := by
          unfold results
          rw [Sem.run_bind, Array.mapM_eq_mapM_toList]
          have k1' : ((fn.results.toList.mapM fun
            | .tmp t => pure (a'.tmps.getD t undef)
            | .cell x t => do loadVar t (← asAddr (a'.tmps.getD x undef)) : Sem (List Value))).run P w' = .ok us w' := k1
          simp only [Sem.run_map]
          erw [k1']
          rfl
        refine ⟨_, hrun, _, Mplus ω (fun _ => none) w', rfl, hs'.ch.below (fun _ _ h => h), fun p hq => ?_, Mplus_holds hs'.holds, ?_⟩
        · unfold Mplus at hq
          split at hq
          · rename_i q hq'
            rcases hO.new _ _ hq' with h | h
            · exact h.elim
            · exact h
          · exact absurd rfl hq
        have hlen := k2.length
        simp only [List.length_map] at hlen
        split at hr2
        · rename_i r1 hres
          rw [hres] at k2 hlen
          simp only [List.map_cons, List.map_nil, RepL] at k2
          obtain ⟨v, r', rfl, k3, rfl⟩ := k2
          rw [← hr2]
          simpa using k3
        · rename_i hne
          have : ¬ us.toArray.size = 1 := by
            intro h'
            have : nf.res.length = 1 := by rw [← hlen]; simpa using h'
            match hq : nf.res, this with
            | [x], _ => exact hne x hq
          rw [dif_neg this, hr2]
          simp only [RepC]
          exact ⟨us, rfl, k2⟩
      intro t a' w' hq
      cases t <;> simp only [QM] at hq
      · obtain ⟨e, M', q1, _, q2⟩ := hq
        exact fin a' w' ⟨e, M', q1, q2⟩
      · obtain ⟨e, M', q1, q2, _⟩ := hq
        exact q2.elim
      · obtain ⟨e, M', q1, _, q2⟩ := hq
        exact fin a' w' ⟨e, M', q1, q2⟩
    · cases h7
  · cases hk

/-- What a body yields, the call yields: a row that is the caller's. -/
theorem fun_soundF (hC : CSound P F C) (hm : P.follows .mixedOrders = true) {fi : Nat} {nf : NFun} (hk : funOk P F fi nf = true) {ds : List D} {sz : Nat} {es : List (List D)} (hl : ds.length = nf.np)
    (hw : wpN C nf.body (fun t e => (match t with
      | .ext _ => False
      | _ => True) ∧ retOwn nf.res sz es e) (params 0 ds)) : RunsF P F fi ds sz es := by
  intro M w vs hh r
  unfold funOk at hk
  split at hk
  · rename_i fn hfn
    simp only [Bool.and_eq_true, beq_iff_eq, List.all_eq_true, decide_eq_true_eq, Bool.not_eq_true'] at hk
    obtain ⟨⟨⟨⟨⟨⟨⟨h1, h2⟩, h3⟩, h3'⟩, h4⟩, h5⟩, h6⟩, h7⟩ := hk
    split at h7
    · rename_i c hc
      have hs := start_SR (nt := nf.nt) r hh (by omega) h3'
      have hwp := wpN_sound hC (fun _ _ _ => rfl) hm nf.body c h7 _ _ M _ w hs hw
      refine calls_of_wp hfn hc ?_
      rw [h1]
      refine wp_mono hwp ?_
      have fin : ∀ (a' : Act) (w' : World), (∃ e M', SR F nf.nt (fun _ => False) (fun _ => none) w M (look e) M' a' w' ∧ retOwn nf.res sz es e) → a'.defers = [] ∧ ∃ v, (results fn a'.tmps).run P w' = .ok v w' ∧
          ((es = [] ∧ 0 < sz ∧ ∃ A : Option Addr, Ending.returned v = .returned (.slice A 0 0) ∧ Bel w w') ∨ ∃ (b o : Nat) (T : TypeId) (us : List Value) (cap : Nat), Ending.returned v = .returned (.slice (some ⟨b, o, none⟩) es.length cap) ∧ Bel w w' ∧ w.heap.size ≤ b ∧
            w'.heap[b]? = some (.cells us.toArray T (0, 0)) ∧ es.length ≤ cap ∧ (o + cap * sz ≤ us.length ∧ cap ≤ 9223372036854775807) ∧ (∀ e ∈ es, e.length = sz) ∧
            ∀ i r off d, es[i]? = some r → r[off]? = some d → isF1 d = true ∧ ∃ u, us[o + i * sz + off]? = some u ∧ RepC F M d u) := by
        rintro a' w' ⟨e, M', hs', hsz0, hflat, hr⟩
        refine ⟨hs'.defers, ?_⟩
        obtain ⟨ρ, ω, hO⟩ := hs'.own
        split at hr
        · rename_i t hres
          obtain ⟨ht, hr⟩ := hr
          have hrun : (results fn a'.tmps).run P w' = .ok (a'.tmps.getD t undef) w' := by
            rw [hres] at h4 h5
            obtain ⟨rv, hrv⟩ : ∃ rv, fn.results.toList = [rv] := by
              match hq : fn.results.toList, h4 with
              | [x], _ => exact ⟨x, rfl⟩
            have hok := h5 ((t, none), rv) (by rw [hrv]; simp)
            unfold results
            rw [Sem.run_bind, Array.mapM_eq_mapM_toList]
            simp only [Sem.run_map]
            rw [hrv]
            cases rv with
            | tmp t' =>
              simp only [resOk, beq_iff_eq] at hok
              subst hok
              rfl
            | cell t' ty => simp [resOk] at hok
          have hev : a'.tmps.getD t undef = a'.eval (.tmp t) := rfl
          have hx := hO.opd (x := .t t) (y := .tmp t) (by simp [opdOk, ht])
          simp only [vd] at hx
          split at hr
          · rename_i b k n hlk
            obtain ⟨rfl, rfl, hb⟩ := hr
            rw [hlk, repV_of rfl] at hx
            simp only [RepR] at hx
            have hrow := hO.roots b sz es (hO.big hb) hb
            unfold PathR at hrow
            refine ⟨_, hrun, ?_⟩
            rcases hx with ⟨h0, A, hv⟩ | ⟨cap, hv, hcap, hcl, hmc⟩
            · exact .inl ⟨List.eq_nil_of_length_eq_zero h0, hsz0, A, by rw [hev, hv], hs'.ch.below (fun _ _ h => h)⟩
            rcases hrow with hrow | ⟨hω, hrows⟩
            · obtain ⟨v1, v2, v3, v4⟩ := hrow
              have hc0 : cap = 0 := by
                rw [v2, v3] at hcl
                simp only [Nat.zero_add] at hcl
                rcases Nat.eq_zero_or_pos cap with h | h
                · exact h
                · have := Nat.mul_pos h v4; omega
              subst hc0
              have hl0 : es.length = 0 := by rw [v1]; rfl
              exact .inl ⟨v1, hsz0, _, by rw [hev, hv, hl0], hs'.ch.below (fun _ _ h => h)⟩
            obtain ⟨hsz, us, T, g1, g2, g3, g4, g5⟩ := hrows
            refine .inr ⟨(ρ (.r b)).blk, (ρ (.r b)).base, T, us, cap, ?_, hs'.ch.below (fun _ _ h => h), ?_, g1, hcap, ⟨?_, hmc⟩, g4, fun i r off d e1 e2 => ?_⟩
            · rw [hev, hv]
              simp
            · rcases hO.new _ _ hω with h | h
              · exact h.elim
              · exact h
            · rw [g2, ← hsz]
              simpa using hcl
            · obtain ⟨u, k1, k2⟩ := g5 i r off d e1 e2
              have hf1 := hflat r (List.mem_of_getElem? e1) d (List.mem_of_getElem? e2)
              rw [isC1_CellR (isF1_isO hf1)] at k2
              exact ⟨hf1, u, k1, flat1_rep hf1 k2⟩
          · rename_i hlk
            rw [hlk, repV_of rfl] at hx
            simp only [RepR, RepC] at hx
            exact ⟨_, hrun, .inl ⟨hr, hsz0, none, by rw [hev, hx], hs'.ch.below (fun _ _ h => h)⟩⟩
          · exact hr.elim
        · exact hr.elim
      intro t a' w' hq
      cases t <;> simp only [QM] at hq
      · obtain ⟨e, M', q1, _, q2⟩ := hq
        exact fin a' w' ⟨e, M', q1, q2⟩
      · obtain ⟨e, M', q1, q2, _⟩ := hq
        exact q2.elim
      · obtain ⟨e, M', q1, _, q2⟩ := hq
        exact fin a' w' ⟨e, M', q1, q2⟩
    · cases h7
  · cases hk

/-! ### Functions to which a root, or a row, is lent -/
theorem look_lent {x : D} {sz : Nat} {es : List (List D)} : ∀ {ds : List D} {t : Nat}, ds.length < 10000 → look (lentEnv x sz es ds) t = if t = 0 then x else if t = lentB then .blk sz es else (ds[t - 1]?).getD .any := by
  intro ds t hl
  have key : ∀ (ds : List D) (k : Nat), k + ds.length ≤ 10000 → look (params k ds ++ [(lentB, .blk sz es)]) t = if t = lentB then .blk sz es else if k ≤ t then (ds[t - k]?).getD .any else .any := by
    intro ds
    induction ds with
    | nil =>
      intro k _
      simp only [params, List.nil_append, look]
      by_cases h : lentB = t
      · rw [if_pos h, if_pos h.symm]
      · rw [if_neg h, if_neg (Ne.symm h)]; simp
    | cons d ds ih =>
      intro k hk
      simp only [List.length_cons] at hk
      simp only [params, List.cons_append, look]
      by_cases h : k = t
      · subst h
        rw [if_pos rfl, if_neg (by unfold lentB; omega)]
        simp
      · rw [if_neg h, ih (k + 1) (by omega)]
        by_cases h2 : t = lentB
        · rw [if_pos h2, if_pos h2]
        · rw [if_neg h2, if_neg h2]
          by_cases h3 : k ≤ t
          · rw [if_pos h3, if_pos (by omega), show t - k = (t - (k + 1)) + 1 from by omega]
            simp
          · rw [if_neg h3, if_neg (by omega)]
  unfold lentEnv
  simp only [look]
  by_cases h : t = 0
  · subst h; rw [if_pos rfl, if_pos rfl]
  · rw [if_neg (Ne.symm h), if_neg h, key ds 1 (by omega)]
    by_cases h2 : t = lentB
    · rw [if_pos h2, if_pos h2]
    · rw [if_neg h2, if_neg h2, if_pos (by omega)]

theorem start_lent {x : D} {v0 : Value} {sz : Nat} {es : List (List D)} {ds : List D} {vs : List Value} (r : RepL F M ds vs) (hh : ∀ p v, M p = some v → w.cell? p = some v) (hl : ds.length + 1 ≤ nt) (hnt : nt ≤ 10000)
    (hv0 : RepV F M ρ x v0) (hroot : RootR F M ω ρ w lentB sz es) (hlt : ∀ k p, ω k = some p → k < w.heap.size) (hap : ∀ (p : Addr) (q : Pa), ω p.block = some q → M p = none) (hS : ∀ k p, ω k = some p → S k) (hLt : ∀ b l, L b = some l → b = lentB ∧ l = ρ (.r lentB)) :
    SR F nt S L w M (look (lentEnv x sz es ds)) M { tmps := (v0 :: vs).toArray ++ Array.replicate (nt - (v0 :: vs).toArray.size) undef, defers := [] } w where
  hnt := hnt
  size := by have := r.length; simp; omega
  defers := rfl
  ch := Ch.refl _ _
  holds := hh
  ext := Mem.le_refl _
  fresh p h1 h2 := absurd h1 h2
  own := by
    have lk := fun t => look_lent (x := x) (sz := sz) (es := es) (ds := ds) (t := t) (by omega)
    have big : ∀ b, 10000 ≤ b → b ≠ lentB → look (lentEnv x sz es ds) b = .any := fun b hb hne => by
      rw [lk, if_neg (by omega), if_neg hne]
      simp [List.getElem?_eq_none (show ds.length ≤ b - 1 by omega)]
    refine ⟨ρ, ω, ⟨fun t ht => ?_, fun b sz' es' hb e => ?_, fun b kt et ks vs hb e => ?_, hlt, fun k p e => .inl (hS k p e), hap, fun b l hb e _ => by obtain ⟨rfl, rfl⟩ := hLt b l e; rfl⟩⟩
    · unfold RepS
      rw [lk]
      by_cases h0 : t = 0
      · subst h0
        rw [if_pos rfl]
        exact .inr ⟨v0, by simp [Array.getElem?_append], hv0⟩
      · rw [if_neg h0, if_neg (by unfold lentB; omega)]
        by_cases ht2 : t - 1 < ds.length
        · obtain ⟨v, hv, rv⟩ := r.get (List.getElem?_eq_getElem ht2)
          refine .inr ⟨v, ?_, by rw [List.getElem?_eq_getElem ht2]; exact RepV.of_pure rv⟩
          have h3 : t < (v0 :: vs).length := by have := r.length; simp; omega
          simp only [Array.getElem?_append, List.size_toArray, h3, if_true, List.getElem?_toArray]
          rw [show t = (t - 1) + 1 from by omega, List.getElem?_cons_succ]
          simpa using hv
        · exact .inl (by rw [List.getElem?_eq_none (by omega)]; rfl)
    · by_cases e1 : b = lentB
      · subst e1
        rw [lk, if_neg (by unfold lentB; omega), if_pos rfl] at e
        cases e
        exact hroot
      · rw [big b hb e1] at e; cases e
    · by_cases e1 : b = lentB
      · subst e1
        rw [lk, if_neg (by unfold lentB; omega), if_pos rfl] at e
        cases e
      · rw [big b hb e1] at e; cases e

theorem rt_lent (t i : Nat) (hi : i < 15) : rt t i ≠ lentB := by unfold rt lentB; omega

/-- What a body yields to which a root is lent, the call yields. -/
theorem fun_soundL (hC : CSound P F C) (hm : P.follows .mixedOrders = true) {fi : Nat} {nf : NFun} (hk : funOk P F fi nf = true) {ds : List D} {d : D} {sz : Nat} {es es' : List (List D)} (hl : ds.length + 1 = nf.np)
    (hw : wpN C nf.body (fun t e => (match t with
      | .ext _ => False
      | _ => True) ∧ (0 < es'.length ∧ look e lentB = .blk sz es') ∧ retOk nf.res d ((lentB, .any) :: e)) (lentEnv (.adr (.r lentB) 0 0) sz es ds)) : RunsL P F fi sz es ds d es' := by
  intro M w vs ρ0 ω0 hh r hlent
  unfold funOk at hk
  split at hk
  · rename_i fn hfn
    simp only [Bool.and_eq_true, beq_iff_eq, List.all_eq_true, decide_eq_true_eq, Bool.not_eq_true'] at hk
    obtain ⟨⟨⟨⟨⟨⟨⟨h1, h2⟩, h3⟩, h3'⟩, h4⟩, h5⟩, h6⟩, h7⟩ := hk
    split at h7
    · rename_i c hc
      obtain ⟨S, hS⟩ : ∃ S : Nat → Prop, S = fun k => ∃ p, ω0 k = some p := ⟨_, rfl⟩
      obtain ⟨L, hL⟩ : ∃ L : Nat → Option Loc, L = fun b => if b = lentB then some (ρ0 (.r lentB)) else none := ⟨_, rfl⟩
      have hs := start_lent (nt := nf.nt) (S := S) (L := L) (x := .adr (.r lentB) 0 0) (v0 := .pointer (some ⟨(ρ0 (.r lentB)).blk, (ρ0 (.r lentB)).base, none⟩)) r hh (by omega) h3' (by rw [repV_of rfl]; simp [RepR]) hlent.rows hlent.lt hlent.apart (fun k p e => by rw [hS]; exact ⟨p, e⟩) (fun b l e => by
        rw [hL] at e
        simp only at e
        split at e
        · rename_i h; cases e; exact ⟨h, rfl⟩
        · cases e)
      have hwp := wpN_sound hC (fun t i hi => by rw [hL]; simp only [if_neg (rt_lent t i hi)]) hm nf.body c h7 _ _ M _ w hs hw
      refine calls_of_wp hfn hc ?_
      rw [h1]
      refine wp_mono hwp ?_
      have fin : ∀ (a' : Act) (w' : World), (∃ e M', SR F nf.nt S L w M (look e) M' a' w' ∧ (0 < es'.length ∧ look e lentB = .blk sz es') ∧ retOk nf.res d ((lentB, .any) :: e)) → a'.defers = [] ∧ ∃ v, (results fn a'.tmps).run P w' = .ok v w' ∧
          (∃ v' M' ρ' ω', Ending.returned v = .returned v' ∧ Ch (fun k => ∃ p, ω0 k = some p) w w' ∧ M.le M' ∧ (∀ p, M p = none → M' p ≠ none → (∃ q, ω0 p.block = some q) ∨ w.heap.size ≤ p.block) ∧ (∀ p v, M' p = some v → w'.cell? p = some v) ∧ RepC F M' d v' ∧ ρ' (.r lentB) = ρ0 (.r lentB) ∧ Lent F M' w' ρ' ω' lentB sz es' ∧ ∀ k p, ω' k = some p → (∃ q, ω0 k = some q) ∨ w.heap.size ≤ k) := by
        rintro a' w' ⟨e, M', hs', ⟨hpos, hlk⟩, hr1, hr2⟩
        refine ⟨hs'.defers, ?_⟩
        obtain ⟨ρ, ω, hO⟩ := hs'.own
        have hbig : 10000 ≤ lentB := by unfold lentB; omega
        have hfE : look ((lentB, .any) :: e) = fbE (look e) lentB := by
          funext t
          unfold fbE
          simp only [look]
          by_cases h : t = lentB
          · rw [if_pos h, if_pos h.symm]
          · rw [if_neg h, if_neg (Ne.symm h)]
        have hE : Own F L (NewB S w) (look ((lentB, .any) :: e)) M' a' w' ρ (ersω ω lentB) := by
          rw [hfE]; exact hO.erase hbig
        have hs2 : SR F nf.nt S L w M (look ((lentB, .any) :: e)) M' a' w' := ⟨hs'.hnt, hs'.size, hs'.defers, hs'.ch, hs'.holds, hs'.ext, hs'.fresh, ρ, ersω ω lentB, hE⟩
        obtain ⟨us, k1, k2⟩ := run_results (P := P) hs2 hE (fun
          | .tmp t => pure (a'.tmps.getD t undef)
          | .cell x t => do loadVar t (← asAddr (a'.tmps.getD x undef))) (fun _ => rfl) (fun _ _ => rfl) nf.res fn.results.toList h4 h5 hr1
        have hrun : (results fn a'.tmps).run P w' = .ok (if h : us.toArray.size = 1 then us.toArray[0] else .tuple us.toArray) w' := by
          unfold results
          rw [Sem.run_bind, Array.mapM_eq_mapM_toList]
          have k1' : ((fn.results.toList.mapM fun
            | .tmp t => pure (a'.tmps.getD t undef)
            | .cell x t => do loadVar t (← asAddr (a'.tmps.getD x undef)) : Sem (List Value))).run P w' = .ok us w' := k1
          simp only [Sem.run_map]
          erw [k1']
          rfl
        have hroot := hO.roots lentB sz es' hbig hlk
        have hρ : ρ (.r lentB) = ρ0 (.r lentB) := hO.lent lentB _ hbig (by rw [hL]; simp) (by rw [hlk]; rfl)
        have hω : ω (ρ (.r lentB)).blk = some (.r lentB) := by
          rcases hroot with ⟨e0, _⟩ | ⟨hω, _⟩
          · rw [e0] at hpos; simp at hpos
          · exact hω
        have hle : M'.le (Mplus (ersω ω lentB) M' w') := Mplus_le hE
        have hnew : ∀ k p, ω k = some p → (∃ q, ω0 k = some q) ∨ w.heap.size ≤ k := fun k p e => by
          have h8 := hO.new k p e
          rwa [hS] at h8
        refine ⟨_, hrun, _, Mplus (ersω ω lentB) M' w', ρ, onlyω ω lentB, rfl, by rw [← hS]; exact hs'.ch, Mem.le_trans hs'.ext hle, fun p hp hq => ?_, Mplus_holds hs'.holds, ?_, hρ, ⟨onlyω_of hω rfl, RootR.frame hroot hle (fun p hp => ⟨rfl, fun e => ⟨onlyω_of e hp, rfl⟩⟩), fun k p e => hO.lt k p (onlyω_some e).1, fun k p e => (onlyω_some e).2, fun p q e => ?_⟩, fun k p e => hnew k p (onlyω_some e).1⟩
        · unfold Mplus at hq
          split at hq
          · rename_i q hq'
            exact hnew _ _ (ersω_some hq').1
          · have h8 := hs'.fresh p hp hq
            rwa [hS] at h8
        · have hlen := k2.length
          simp only [List.length_map] at hlen
          split at hr2
          · rename_i r1 hres
            rw [hres] at k2 hlen
            simp only [List.map_cons, List.map_nil, RepL] at k2
            obtain ⟨v, r', rfl, k3, rfl⟩ := k2
            rw [← hr2]
            simpa using k3
          · rename_i hne
            have : ¬ us.toArray.size = 1 := by
              intro h'
              have : nf.res.length = 1 := by rw [← hlen]; simpa using h'
              match hq : nf.res, this with
              | [x], _ => exact hne x hq
            rw [dif_neg this, hr2]
            simp only [RepC]
            exact ⟨us, rfl, k2⟩
        · obtain ⟨e1, e2⟩ := onlyω_some e
          have e3 : ersω ω lentB p.block = none := by simp only [ersω, e1, e2, if_true]
          unfold Mplus
          rw [e3]
          exact hO.apart p q e1
      intro t a' w' hq
      cases t <;> simp only [QM] at hq
      · obtain ⟨e, M', q1, _, q2⟩ := hq
        exact fin a' w' ⟨e, M', q1, q2⟩
      · obtain ⟨e, M', q1, q2, _⟩ := hq
        exact q2.elim
      · obtain ⟨e, M', q1, _, q2⟩ := hq
        exact fin a' w' ⟨e, M', q1, q2⟩
    · cases h7
  · cases hk

/-- What a body yields that eats a row, the call yields. -/
theorem fun_soundI (hC : CSound P F C) (hm : P.follows .mixedOrders = true) {fi : Nat} {nf : NFun} (hk : funOk P F fi nf = true) {ds : List D} {sz : Nat} {es es' : List (List D)} (hl : ds.length + 1 = nf.np) (hpure : ∀ d ∈ ds, isO d = false) (hsz : 0 < sz)
    (hw : wpN C nf.body (fun t e => (match t with
      | .ext _ => False
      | _ => True) ∧ retRow nf.res sz es' e) (lentEnv (.ref (.r lentB) 0 es.length) sz es ds)) : RunsI P F fi sz es ds es' := by
  unfold funOk at hk
  split at hk
  case h_2 => cases hk
  rename_i fn hfn
  simp only [Bool.and_eq_true, beq_iff_eq, List.all_eq_true, decide_eq_true_eq, Bool.not_eq_true'] at hk
  obtain ⟨⟨⟨⟨⟨⟨⟨h1, h2⟩, h3⟩, h3'⟩, h4⟩, h5⟩, h6⟩, h7⟩ := hk
  split at h7
  case h_2 => cases h7
  rename_i c hc
  -- the end
  have fin : ∀ (S : Nat → Prop) (L : Nat → Option Loc) (M : Mem) (w : World) (b : Nat), (∀ k, S k → k = b) → ∀ (a' : Act) (w' : World), (∃ e M', SR F nf.nt S L w M (look e) M' a' w' ∧ retRow nf.res sz es' e) → a'.defers = [] ∧ ∃ v, (results fn a'.tmps).run P w' = .ok v w' ∧ ∃ v', Ending.returned v = .returned v' ∧ Ch S w w' ∧
      ((es' = [] ∧ ∃ A, v' = .slice A 0 0) ∨ ∃ (B o2 cap2 : Nat) (T2 : TypeId) (us2 : List Value), (S B ∨ w.heap.size ≤ B) ∧ v' = .slice (some ⟨B, o2, none⟩) es'.length cap2 ∧ w'.heap[B]? = some (.cells us2.toArray T2 (0, 0)) ∧ es'.length ≤ cap2 ∧ cap2 ≤ 9223372036854775807 ∧ o2 + cap2 * sz ≤ us2.length ∧
        ∀ i r off d, es'[i]? = some r → r[off]? = some d → ∃ u, us2[o2 + i * sz + off]? = some u ∧ RepC F M d u) := by
    rintro S L M w b hSb a' w' ⟨e, M', hs', hsz0, hflat, hr⟩
    refine ⟨hs'.defers, ?_⟩
    obtain ⟨ρ, ω, hO⟩ := hs'.own
    split at hr
    · rename_i t hres
      obtain ⟨ht, hr⟩ := hr
      have hrun : (results fn a'.tmps).run P w' = .ok (a'.tmps.getD t undef) w' := by
        rw [hres] at h4 h5
        obtain ⟨rv, hrv⟩ : ∃ rv, fn.results.toList = [rv] := by
          match hq : fn.results.toList, h4 with
          | [x], _ => exact ⟨x, rfl⟩
        have hok := h5 ((t, none), rv) (by rw [hrv]; simp)
        unfold results
        rw [Sem.run_bind, Array.mapM_eq_mapM_toList]
        simp only [Sem.run_map]
        rw [hrv]
        cases rv with
        | tmp t' =>
          simp only [resOk, beq_iff_eq] at hok
          subst hok
          rfl
        | cell t' ty => simp [resOk] at hok
      have hev : a'.tmps.getD t undef = a'.eval (.tmp t) := rfl
      have hx := hO.opd (x := .t t) (y := .tmp t) (by simp [opdOk, ht])
      simp only [vd] at hx
      refine ⟨_, hrun, _, rfl, hs'.ch, ?_⟩
      split at hr
      · rename_i b' k n hlk
        split at hr
        · rename_i sz2 es2 hb
          obtain ⟨rfl, hkn, hes⟩ := hr
          rw [hlk, repV_of rfl] at hx
          have hgp : getP (look e) (.r b') = some (sz2, es2) := by simp [getP, hb]
          rcases given hO hgp hkn hx (fun e he c hc => isF1_isO (hflat e (by rw [← hes]; exact he) c hc)) with ⟨A, hv, hn0⟩ | ⟨cap, us, T, hv, ⟨hcap, hmc⟩, hcl, hω, g0, g1, g2, g4, g5⟩
          · exact .inl ⟨by rw [← hes, hn0]; simp, A, by rw [hev]; exact hv⟩
          · have hn : es'.length = n := by rw [← hes]; simp; omega
            refine .inr ⟨(ρ (.r b')).blk, (ρ (.r b')).base + k * sz2, cap, T, us, hO.new _ _ hω, by rw [hev, hn]; exact hv, g1, by rw [hn]; exact hcap, hmc, by rw [g2]; exact hcl, fun i r off d e1 e2 => ?_⟩
            obtain ⟨u, k1, k2⟩ := g5 i r off d (by rw [hes]; exact e1) e2
            exact ⟨u, k1, flat1_rep (hflat r (List.mem_of_getElem? e1) d (List.mem_of_getElem? e2)) k2⟩
        · exact hr.elim
      · rename_i hlk
        rw [hlk, repV_of rfl] at hx
        simp only [RepR, RepC] at hx
        exact .inl ⟨hr, none, by rw [hev]; exact hx⟩
      · exact hr.elim
    · exact hr.elim
  have run : ∀ (S : Nat → Prop) (L : Nat → Option Loc) (M : Mem) (w : World) (b : Nat) (v0 : Value) (vs : List Value) (ρ0 : Pa → Loc) (ω0 : Nat → Option Pa), (∀ k, S k → k = b) → NoL L → RepL F M ds vs → (∀ p v, M p = some v → w.cell? p = some v) → RepV F M ρ0 (.ref (.r lentB) 0 es.length) v0 → RootR F M ω0 ρ0 w lentB sz es → (∀ k p, ω0 k = some p → k < w.heap.size) → (∀ (p : Addr) (q : Pa), ω0 p.block = some q → M p = none) → (∀ k p, ω0 k = some p → S k) → (∀ b l, L b = some l → b = lentB ∧ l = ρ0 (.r lentB)) →
      Calls P fi (v0 :: vs).toArray w (fun e w' => ∃ v', e = .returned v' ∧ Ch S w w' ∧
      ((es' = [] ∧ ∃ A, v' = .slice A 0 0) ∨ ∃ (B o2 cap2 : Nat) (T2 : TypeId) (us2 : List Value), (S B ∨ w.heap.size ≤ B) ∧ v' = .slice (some ⟨B, o2, none⟩) es'.length cap2 ∧ w'.heap[B]? = some (.cells us2.toArray T2 (0, 0)) ∧ es'.length ≤ cap2 ∧ cap2 ≤ 9223372036854775807 ∧ o2 + cap2 * sz ≤ us2.length ∧
        ∀ i r off d, es'[i]? = some r → r[off]? = some d → ∃ u, us2[o2 + i * sz + off]? = some u ∧ RepC F M d u)) := by
    intro S L M w b v0 vs ρ0 ω0 hSb hLr r hh hv0 hroot hlt hap hS hLt
    have hs := start_lent (nt := nf.nt) (S := S) (L := L) r hh (by omega) h3' hv0 hroot hlt hap hS hLt
    have hwp := wpN_sound hC hLr hm nf.body c h7 _ _ M _ w hs hw
    refine calls_of_wp hfn hc ?_
    rw [h1]
    refine wp_mono hwp ?_
    intro t a' w' hq
    cases t <;> simp only [QM] at hq
    · obtain ⟨e, M', q1, _, q2⟩ := hq
      exact fin S L M w b hSb a' w' ⟨e, M', q1, q2⟩
    · obtain ⟨e, M', q1, q2, _⟩ := hq
      exact q2.elim
    · obtain ⟨e, M', q1, _, q2⟩ := hq
      exact fin S L M w b hSb a' w' ⟨e, M', q1, q2⟩
  have pure : ∀ {M : Mem} {w : World} {b : Option Nat} {vs : List Value}, RepAL F M w b ds vs → RepL F M ds vs := fun {M w b vs} h => RepL.of_forall' h.1 (fun i d v e1 e2 => (repA_of (hpure d (List.mem_of_getElem? e1))).1 (h.2 i d v e1 e2))
  intro M w vs hh
  refine ⟨fun e A r => ?_, fun b o T us cap r hM hb hcell hcap hmc hle hu hc => ?_⟩
  · refine (run (fun _ => False) (fun _ => none) M w 0 (.slice A 0 0) vs (fun _ => ⟨0, 0, sz, 0⟩) (fun _ => none) (fun k h => h.elim) (fun _ _ _ => rfl) (pure r) hh (by
      rw [repV_of rfl]; simp only [RepR]; exact .inl ⟨by rw [e]; rfl, A, rfl⟩) (.inl ⟨e, rfl, rfl, hsz⟩) (fun k p h => by cases h) (fun p q h => by cases h) (fun k p h => by cases h) (fun b l h => by cases h)).mono ?_
    rintro e0 w' ⟨v', rfl, hch, h | ⟨B, o2, cap2, T2, us2, hB, q1, q2, q3, q4, q5, q6⟩⟩
    · exact ⟨_, rfl, hch.below (fun _ _ h => h), .inl h⟩
    · exact ⟨_, rfl, hch.below (fun _ _ h => h), .inr ⟨B, o2, T2, us2, cap2, q1, hB.elim False.elim id, q2, q3, ⟨q5, q4⟩, q6⟩⟩
  · have hO : ∀ i r off d, es[i]? = some r → r[off]? = some d → isO d = false := fun i r off d h1 h2 => by
      obtain ⟨u, _, k2⟩ := hc i r off d h1 h2
      exact isV_isO (rep_isV k2)
    have hle2 : es.length * sz ≤ cap * sz := Nat.mul_le_mul_right _ hcap
    refine (run (fun k => k = b) (fun _ => none) M w b (.slice (some ⟨b, o, none⟩) es.length cap) vs (fun _ => ⟨b, o, sz, us.length⟩) (fun k => if k = b then some (.r lentB) else none) (fun k h => h) (fun _ _ _ => rfl) (pure r) hh (by
      rw [repV_of rfl]; simp only [RepR, Nat.zero_mul, Nat.add_zero, Nat.zero_add]; exact .inr ⟨cap, rfl, hcap, hle, hmc⟩) (.inr ⟨by simp, rfl, us, T, hcell, rfl, by show o + es.length * sz ≤ us.length; omega, hu, fun i r off d h1 h2 => by
        obtain ⟨u, k1, k2⟩ := hc i r off d h1 h2
        refine ⟨u, k1, ?_⟩
        show CellR F M _ _ w lentB i off d u
        rw [isC1_CellR (hO i r off d h1 h2)]
        exact k2⟩) (fun k p h => by
        split at h
        · rename_i e; rw [e]; exact hb
        · cases h) (fun p q h => by
        split at h
        · rename_i e; exact hM p e
        · cases h) (fun k p h => by
        split at h
        · assumption
        · cases h) (fun b l h => by cases h)).mono ?_
    rintro e0 w' ⟨v', rfl, hch, h | ⟨B, o2, cap2, T2, us2, hB, q1, q2, q3, q4, q5, q6⟩⟩
    · exact ⟨_, rfl, hch, .inl h⟩
    · rcases hB with rfl | hB
      · exact ⟨_, rfl, hch, .inr (.inl ⟨o2, cap2, T2, us2, q1, q2, q3, q4, q5, q6⟩)⟩
      · exact ⟨_, rfl, hch, .inr (.inr ⟨B, o2, T2, us2, cap2, q1, hB, q2, q3, ⟨q5, q4⟩, q6⟩)⟩

/-! ### Functions that hand over parts of their results -/
theorem handL_get {f : Nat → D} : ∀ {ds Rs : List D}, handL f ds Rs → ds.length = Rs.length ∧ ∀ (j : Nat) (d r : D), ds[j]? = some d → Rs[j]? = some r → handP f d r
  | [], [], _ => ⟨rfl, fun j d r h => by simp at h⟩
  | [], _ :: _, h => h.elim
  | _ :: _, [], h => h.elim
  | d :: ds, r :: rs, h => by
    obtain ⟨h1, h2⟩ := handL_get h.2
    refine ⟨by simp [h1], fun j d' r' e1 e2 => ?_⟩
    cases j with
    | zero => simp at e1 e2; subst e1 e2; exact h.1
    | succ j => exact h2 j d' r' (by simpa using e1) (by simpa using e2)
theorem hostL_get {t : Nat} : ∀ {ds : List D} {i j : Nat}, (hostL t i ds)[j]? = (ds[j]?).map (hostP t (i + j))
  | [], i, j => by simp [hostL]
  | d :: ds, i, j => by
    cases j with
    | zero => simp [hostL]
    | succ j =>
      simp only [hostL, List.getElem?_cons_succ]
      rw [hostL_get, show i + 1 + j = i + (j + 1) by omega]
theorem hostL_len {t : Nat} : ∀ {ds : List D} {i : Nat}, (hostL t i ds).length = ds.length
  | [], i => rfl
  | d :: ds, i => by simp [hostL, hostL_len]
theorem hostRL_get {t b : Nat} {x : D} : ∀ {ds : List D} {i : Nat}, (b, x) ∈ hostRL t i ds → ∃ j d, ds[j]? = some d ∧ (b, x) ∈ hostR1 t (i + j) d
  | [], i, h => by simp [hostRL] at h
  | d :: ds, i, h => by
    simp only [hostRL, List.mem_append] at h
    rcases h with h | h
    · exact ⟨0, d, by simp, h⟩
    · obtain ⟨j, d', h1, h2⟩ := hostRL_get h
      exact ⟨j + 1, d', by simpa using h1, by rwa [show i + (j + 1) = i + 1 + j by omega]⟩
theorem hostRL_of {t b : Nat} {x : D} : ∀ {ds : List D} {i j : Nat} {d : D}, ds[j]? = some d → (b, x) ∈ hostR1 t (i + j) d → (b, x) ∈ hostRL t i ds
  | [], i, j, d, h, _ => by simp at h
  | d0 :: ds, i, j, d, h, hx => by
    simp only [hostRL, List.mem_append]
    cases j with
    | zero => simp at h; subst h; exact .inl hx
    | succ j => exact .inr (hostRL_of (j := j) (by simpa using h) (by rwa [show i + (j + 1) = i + 1 + j by omega] at hx))
theorem noDupN_nodup : ∀ {l : List Nat}, noDupN l = true → l.Nodup
  | [], _ => List.nodup_nil
  | x :: l, h => by
    simp only [noDupN, Bool.and_eq_true, Bool.not_eq_true'] at h
    refine List.nodup_cons.2 ⟨fun hx => ?_, noDupN_nodup h.2⟩
    have := List.contains_iff_mem.2 hx
    rw [h.1] at this; cases this
theorem nodup_noDupN : ∀ {l : List Nat}, l.Nodup → noDupN l = true
  | [], _ => rfl
  | x :: l, h => by
    obtain ⟨h1, h2⟩ := List.nodup_cons.1 h
    simp only [noDupN, Bool.and_eq_true, Bool.not_eq_true']
    exact ⟨by cases e : l.contains x; rfl; exact absurd (List.contains_iff_mem.1 e) h1, nodup_noDupN h2⟩
/-- The number of the part that root b is. -/
def partOf (b : Nat) : Nat → List D → Option Nat
  | _, [] => none
  | i, d :: ds => if (handB d).contains b then some i else partOf b (i + 1) ds
theorem partOf_some {b : Nat} : ∀ {ds : List D} {i c : Nat}, partOf b i ds = some c → ∃ j d, c = i + j ∧ ds[j]? = some d ∧ b ∈ handB d
  | [], i, c, h => by cases h
  | d :: ds, i, c, h => by
    unfold partOf at h
    split at h
    · rename_i e
      cases h
      exact ⟨0, d, by simp, by simp, by simpa using e⟩
    · obtain ⟨j, d', h1, h2, h3⟩ := partOf_some h
      exact ⟨j + 1, d', by omega, by simpa using h2, h3⟩
theorem partOf_of {b : Nat} : ∀ {ds : List D} {i j : Nat} {d : D}, noDupN (ds.flatMap handB) = true → ds[j]? = some d → b ∈ handB d → partOf b i ds = some (i + j)
  | [], i, j, d, _, h, _ => by simp at h
  | d0 :: ds, i, j, d, hn, h, hb => by
    have hnd : ((d0 :: ds).flatMap handB).Nodup := noDupN_nodup hn
    rw [List.flatMap_cons, List.nodup_append] at hnd
    unfold partOf
    cases j with
    | zero =>
      simp at h; subst h
      rw [if_pos (by simpa using hb)]; rfl
    | succ j =>
      have h' : ds[j]? = some d := by simpa using h
      have hm : b ∈ ds.flatMap handB := List.mem_flatMap.2 ⟨d, List.mem_of_getElem? h', hb⟩
      rw [if_neg (fun e => hnd.2.2 b (by simpa using e) b hm rfl), partOf_of (nodup_noDupN hnd.2.1) h' hb]
      congr 1; omega

/-- What is handed over, of the parts. -/
theorem hand_over {e : Nat → D} (hO : Own F (fun _ => none) (fun k => False ∨ w0.heap.size ≤ k) e M a w ρ ω) {ds Rs : List D} {us : List Value} (hh : handL e ds Rs) (hn : noDupN (ds.flatMap handB) = true) (hus : RepRL F M ρ ds us) :
    ∃ ρ' ω', RepRL F M ρ' (hostL 0 1 Rs) us ∧ (∀ b sz es, (b, D.blk sz es) ∈ hostRL 0 1 Rs → RootR F M ω' ρ' w b sz es) ∧ (∀ k p, ω' k = some p → w0.heap.size ≤ k ∧ k < w.heap.size ∧ ∃ x, (p.root, x) ∈ hostRL 0 1 Rs) ∧ (∀ (p : Addr) (q : Pa), ω' p.block = some q → M p = none) := by
  obtain ⟨hlen, hget⟩ := handL_get hh
  -- the frame's root of a part
  obtain ⟨nb, hnb⟩ : ∃ nb : Nat → Nat, nb = fun c => match ds[c - 10001]? with
    | some d => (handB d).headD c
    | none => c := ⟨_, rfl⟩
  obtain ⟨ρ', hρ'⟩ : ∃ ρ' : Pa → Loc, ρ' = fun p => ρ (p.to (nb p.root)) := ⟨_, rfl⟩
  obtain ⟨ω', hω'⟩ : ∃ ω' : Nat → Option Pa, ω' = fun k => match ω k with
    | some p => match partOf p.root 10001 ds with
      | some c => some (p.to c)
      | none => none
    | none => none := ⟨_, rfl⟩
  have nbOf : ∀ j d b, ds[j]? = some d → handB d = [b] → nb (rt 0 (1 + j)) = b := fun j d b h1 h2 => by
    have : rt 0 (1 + j) - 10001 = j := by unfold rt; omega
    rw [hnb]; simp only [this, h1, h2]; rfl
  -- a part that is handed over
  have part : ∀ j d r, ds[j]? = some d → Rs[j]? = some r → ∀ b x, (b, x) ∈ hostR1 0 (1 + j) r → ∃ c, handB d = [c] ∧ b = rt 0 (1 + j) ∧ e c = x ∧ 10000 ≤ c := by
    intro j d r h1 h2 b x hx
    have hp := hget j d r h1 h2
    have big : ∀ {c sz es}, e c = .blk sz es → 10000 ≤ c := fun h => hO.big h
    cases r <;> simp only [hostR1, List.mem_cons, List.not_mem_nil, or_false, Prod.mk.injEq] at hx
    case own sz es =>
      cases d <;> try (simp [handP, isV] at hp; done)
      rename_i p k n
      cases p with
      | r c => exact ⟨c, rfl, hx.1, by rw [hx.2]; exact hp.2.2, big hp.2.2⟩
      | n c i o => simp [handP, isV] at hp
    case blk sz es =>
      cases d <;> try (simp [handP, isV] at hp; done)
      rename_i p k n
      cases p with
      | r c => exact ⟨c, rfl, hx.1, by rw [hx.2]; exact hp.2.2, big hp.2.2⟩
      | n c i o => simp [handP, isV] at hp
  refine ⟨ρ', ω', ⟨by rw [hostL_len, ← hlen]; exact hus.1, fun j x v h1 h2 => ?_⟩, fun b sz es hb => ?_, fun k p hk => ?_, fun p q hq => ?_⟩
  · rw [hostL_get, Option.map_eq_some_iff] at h1
    obtain ⟨r, hr, rfl⟩ := h1
    have hj : j < ds.length := by rw [hlen]; exact (List.getElem?_eq_some_iff.1 hr).1
    have hd := List.getElem?_eq_getElem hj
    have hv := hus.2 j _ v hd h2
    have hp := hget j _ r hd hr
    generalize ds[j] = d at hd hv hp
    have pure : isV d = true → r = d → RepR F M ρ' (hostP 0 (1 + j) r) v := fun h3 h4 => by
      subst h4
      cases r <;> first | (simp [isV] at h3; done) | exact hv
    cases d with
    | ref p k n =>
      cases p with
      | r c =>
        cases r <;> try (simp [handP, isV] at hp; done)
        rename_i sz es
        obtain ⟨rfl, rfl, h3⟩ := hp
        have e1 : ρ' (.r (rt 0 (1 + j))) = ρ (.r c) := by
          rw [hρ']; simp only [Pa.root, nbOf j _ c hd rfl, Pa.to]
        simp only [hostP, RepR] at hv ⊢
        rw [e1]; exact hv
      | n c i o => cases r <;> simp [handP, isV] at hp
    | adr p k n =>
      cases p with
      | r c =>
        cases r <;> try (simp [handP, isV] at hp; done)
        rename_i sz es
        obtain ⟨rfl, rfl, h3⟩ := hp
        have e1 : ρ' (.r (rt 0 (1 + j))) = ρ (.r c) := by
          rw [hρ']; simp only [Pa.root, nbOf j _ c hd rfl, Pa.to]
        simp only [hostP, RepR] at hv ⊢
        rw [e1]; exact hv
      | n c i o => cases r <;> simp [handP, isV] at hp
    | _ => first | (simp [handP, isV] at hp; done) | (simp only [handP] at hp; exact pure hp.1 hp.2)
  · obtain ⟨j, r, hr, hx⟩ := hostRL_get hb
    have hj : j < ds.length := by rw [hlen]; exact (List.getElem?_eq_some_iff.1 hr).1
    have hd := List.getElem?_eq_getElem hj
    obtain ⟨c, h1, rfl, h3, h4⟩ := part j _ r hd hr _ _ hx
    refine (hO.roots c sz es h4 h3).carry (Mem.le_refl _) (fun p hp => ⟨?_, fun hw => ⟨?_, rfl⟩⟩)
    · rw [hρ']; simp only [Pa.to_root, nbOf j _ c hd h1]
      rw [Pa.to_to c _ p hp]
    · rw [hω']; simp only [hw, hp]
      rw [partOf_of hn hd (by rw [h1]; simp)]
      simp only [Option.some.injEq]
      congr 1
      unfold rt; omega
  · rw [hω'] at hk
    simp only at hk
    split at hk
    · rename_i p' hp'
      split at hk
      · rename_i c hc
        cases hk
        have hnew := hO.new _ _ hp'
        refine ⟨by rcases hnew with h | h; exact h.elim; exact h, hO.lt _ _ hp', ?_⟩
        obtain ⟨j, d, rfl, hd, hb⟩ := partOf_some hc
        have hj : j < Rs.length := by rw [← hlen]; exact (List.getElem?_eq_some_iff.1 hd).1
        have hr := List.getElem?_eq_getElem hj
        have hp := hget j d _ hd hr
        have e1 : 10001 + j = rt 0 (1 + j) := by unfold rt; omega
        rw [Pa.to_root, e1]
        generalize Rs[j] = r at hr hp
        cases d <;> simp only [handB, List.not_mem_nil] at hb
        case ref p k n =>
          cases p with
          | r c =>
            cases r <;> try (simp [handP, isV] at hp; done)
            rename_i sz0 es0
            exact ⟨.blk sz0 es0, hostRL_of hr (by simp [hostR1])⟩
          | n c i o => simp [handB] at hb
        case adr p k n =>
          cases p with
          | r c =>
            cases r <;> try (simp [handP, isV] at hp; done)
            rename_i sz0 es0
            exact ⟨.blk sz0 es0, hostRL_of hr (by simp [hostR1])⟩
          | n c i o => simp [handB] at hb
      · cases hk
    · cases hk
  · rw [hω'] at hq
    simp only at hq
    split at hq
    · rename_i p' hp'
      exact hO.apart p p' hp'
    · cases hq

theorem handP_isX {f : Nat → D} {d r : D} (h : handP f d r) : isX d = false := by
  cases d <;> first | rfl | (cases r <;> simp [handP, isV] at h)
theorem run_tmps {P : Program} {a' : Act} {w' : World} (g : ResultVar → Sem Value) (hg1 : ∀ t, g (.tmp t) = pure (a'.tmps.getD t undef)) : ∀ (rs : List (Nat × Option (Nat × Bool))) (rvs : List ResultVar), rs.length = rvs.length → (∀ p ∈ rs.zip rvs, resOk P p.1 p.2 = true) → (∀ r ∈ rs, r.2 = none) →
    (rvs.mapM g).run P w' = .ok (rs.map fun r => a'.tmps.getD r.1 undef) w'
  | [], [], _, _, _ => rfl
  | r :: rs, rv :: rvs, hl, hk, hn => by
    have ih := run_tmps (P := P) (w' := w') g hg1 rs rvs (by simpa using hl) (fun p hp => hk p (by simp [hp])) (fun r hr => hn r (by simp [hr]))
    have hr := hk (r, rv) (by simp)
    have hn0 := hn r (by simp)
    obtain ⟨t, o⟩ := r
    simp only at hn0
    subst hn0
    cases rv with
    | tmp t' =>
      simp only [resOk, beq_iff_eq] at hr
      subst hr
      simp [List.mapM_cons, hg1, ih]
    | cell t' ty => simp [resOk] at hr

/-- What a body yields, of which parts are handed over, the call yields. -/
theorem fun_soundA (hC : CSound P F C) (hm : P.follows .mixedOrders = true) {fi : Nat} {nf : NFun} (hk : funOk P F fi nf = true) {ds : List D} {R : D} (hl : ds.length = nf.np)
    (hw : wpN C nf.body (fun t e => (match t with
      | .ext _ => False
      | _ => True) ∧ retA nf.res R e) (params 0 ds)) : RunsA P F fi ds R := by
  intro M w vs hh r
  unfold funOk at hk
  split at hk
  · rename_i fn hfn
    simp only [Bool.and_eq_true, beq_iff_eq, List.all_eq_true, decide_eq_true_eq, Bool.not_eq_true'] at hk
    obtain ⟨⟨⟨⟨⟨⟨⟨h1, h2⟩, h3⟩, h3'⟩, h4⟩, h5⟩, h6⟩, h7⟩ := hk
    split at h7
    · rename_i c hc
      have hs := start_SR (nt := nf.nt) r hh (by omega) h3'
      have hwp := wpN_sound hC (fun _ _ _ => rfl) hm nf.body c h7 _ _ M _ w hs hw
      refine calls_of_wp hfn hc ?_
      rw [h1]
      refine wp_mono hwp ?_
      have fin : ∀ (a' : Act) (w' : World), (∃ e M', SR F nf.nt (fun _ => False) (fun _ => none) w M (look e) M' a' w' ∧ retA nf.res R e) → a'.defers = [] ∧ ∃ v, (results fn a'.tmps).run P w' = .ok v w' ∧
          (∃ v' M' ρ ω us, Ending.returned v = .returned v' ∧ Bel w w' ∧ M.le M' ∧ (∀ p, M p = none → M' p ≠ none → w.heap.size ≤ p.block) ∧ (∀ p v, M' p = some v → w'.cell? p = some v) ∧
            shapeV R us v' ∧ RepRL F M' ρ (hostL 0 1 (partsR R)) us ∧ (∀ b sz es, (b, D.blk sz es) ∈ hostR 0 R → RootR F M' ω ρ w' b sz es) ∧ (∀ k p, ω k = some p → w.heap.size ≤ k ∧ k < w'.heap.size ∧ ∃ x, (p.root, x) ∈ hostR 0 R) ∧ (∀ (p : Addr) (q : Pa), ω p.block = some q → M' p = none)) := by
        rintro a' w' ⟨e, M', hs', hr⟩
        refine ⟨hs'.defers, ?_⟩
        obtain ⟨ρ, ω, hO⟩ := hs'.own
        have hbel : Bel w w' := hs'.ch.below (fun _ _ h => h)
        have hfr : ∀ p, M p = none → M' p ≠ none → w.heap.size ≤ p.block := fun p h1 h2 => (hs'.fresh p h1 h2).elim False.elim id
        have one : ∀ t, nf.res = [(t, none)] → (results fn a'.tmps).run P w' = .ok (a'.tmps.getD t undef) w' := fun t hres => by
          rw [hres] at h4 h5
          obtain ⟨rv, hrv⟩ : ∃ rv, fn.results.toList = [rv] := by
            match hq : fn.results.toList, h4 with
            | [x], _ => exact ⟨x, rfl⟩
          have hok := h5 ((t, none), rv) (by rw [hrv]; simp)
          unfold results
          rw [Sem.run_bind, Array.mapM_eq_mapM_toList]
          simp only [Sem.run_map]
          rw [hrv]
          cases rv with
          | tmp t' =>
            simp only [resOk, beq_iff_eq] at hok
            subst hok
            rfl
          | cell t' ty => simp [resOk] at hok
        have val : ∀ t, t < 10000 → RepV F M' ρ (look e t) (a'.tmps.getD t undef) := fun t ht => by
          exact hO.opd (x := .t t) (y := .tmp t) (by simp [opdOk, ht])
        unfold retA at hr
        split at hr
        · rename_i t hres
          obtain ⟨ht, hr⟩ := hr
          have hv := val t ht
          split at hr
          · rename_i ds' Rs hlk
            rw [hlk] at hv
            obtain ⟨us, hv, hrl⟩ := hv
            obtain ⟨ρ', ω', k1, k2, k3, k4⟩ := hand_over hO hr.1 hr.2 hrl
            exact ⟨_, one t hres, _, M', ρ', ω', us, rfl, hbel, hs'.ext, hfr, hs'.holds, hv, k1, k2, k3, k4⟩
          · rename_i p k n sz es hlk
            rw [hlk, repV_of rfl] at hv
            have hn : noDupN ([D.ref p k n].flatMap handB) = true := by cases p <;> simp [handB, noDupN]
            obtain ⟨ρ', ω', k1, k2, k3, k4⟩ := hand_over hO (ds := [.ref p k n]) (Rs := [.own sz es]) (us := [a'.tmps.getD t undef]) ⟨hr, trivial⟩ hn ⟨rfl, fun j d v e1 e2 => by
              cases j with
              | zero => simp only [List.getElem?_cons_zero, Option.some.injEq] at e1 e2; subst e1 e2; exact hv
              | succ j => simp at e1⟩
            exact ⟨_, one t hres, _, M', ρ', ω', _, rfl, hbel, hs'.ext, hfr, hs'.holds, rfl, k1, k2, k3, k4⟩
          · rename_i p k n sz es hlk
            rw [hlk, repV_of rfl] at hv
            have hn : noDupN ([D.adr p k n].flatMap handB) = true := by cases p <;> simp [handB, noDupN]
            obtain ⟨ρ', ω', k1, k2, k3, k4⟩ := hand_over hO (ds := [.adr p k n]) (Rs := [.blk sz es]) (us := [a'.tmps.getD t undef]) ⟨hr, trivial⟩ hn ⟨rfl, fun j d v e1 e2 => by
              cases j with
              | zero => simp only [List.getElem?_cons_zero, Option.some.injEq] at e1 e2; subst e1 e2; exact hv
              | succ j => simp at e1⟩
            exact ⟨_, one t hres, _, M', ρ', ω', _, rfl, hbel, hs'.ext, hfr, hs'.holds, rfl, k1, k2, k3, k4⟩
          · exact hr.elim
        · obtain ⟨hne, hall, hr⟩ := hr
          split at hr
          · rename_i Rs
            have hrun : (results fn a'.tmps).run P w' = .ok (.tuple (nf.res.map fun r => a'.tmps.getD r.1 undef).toArray) w' := by
              unfold results
              rw [Sem.run_bind, Array.mapM_eq_mapM_toList]
              have k1' : ((fn.results.toList.mapM fun
                | .tmp t => pure (a'.tmps.getD t undef)
                | .cell x t => do loadVar t (← asAddr (a'.tmps.getD x undef)) : Sem (List Value))).run P w' = .ok (nf.res.map fun r => a'.tmps.getD r.1 undef) w' := run_tmps (P := P) (fun
                | .tmp t => pure (a'.tmps.getD t undef)
                | .cell x t => do loadVar t (← asAddr (a'.tmps.getD x undef))) (fun _ => rfl) nf.res fn.results.toList h4 h5 (fun r hr => (hall r hr).2)
              simp only [Sem.run_map]
              erw [k1']
              have : ¬ (nf.res.map fun r => a'.tmps.getD r.1 undef).toArray.size = 1 := by simpa using hne
              simp [Result.andThen, hne]
            obtain ⟨hlen, hget⟩ := handL_get hr.1
            obtain ⟨ρ', ω', k1, k2, k3, k4⟩ := hand_over hO (us := nf.res.map fun r => a'.tmps.getD r.1 undef) hr.1 hr.2 ⟨by simp, fun j d v e1 e2 => by
              rw [List.getElem?_map, Option.map_eq_some_iff] at e1 e2
              obtain ⟨r1, g1, rfl⟩ := e1
              obtain ⟨r2, g2, rfl⟩ := e2
              rw [g1] at g2; cases g2
              have hv := val r1.1 (hall r1 (List.mem_of_getElem? g1)).1
              have hj : j < Rs.length := by
                rw [← hlen]; simp; exact (List.getElem?_eq_some_iff.1 g1).1
              have hp := hget j (look e r1.1) _ (by simp [g1]) (List.getElem?_eq_getElem hj)
              rwa [repV_of (handP_isX hp)] at hv⟩
            exact ⟨_, hrun, _, M', ρ', ω', _, rfl, hbel, hs'.ext, hfr, hs'.holds, rfl, k1, k2, k3, k4⟩
          · exact hr.elim
      intro t a' w' hq
      cases t <;> simp only [QM] at hq
      · obtain ⟨e, M', q1, _, q2⟩ := hq
        exact fin a' w' ⟨e, M', q1, q2⟩
      · obtain ⟨e, M', q1, q2, _⟩ := hq
        exact q2.elim
      · obtain ⟨e, M', q1, _, q2⟩ := hq
        exact fin a' w' ⟨e, M', q1, q2⟩
    · cases h7
  · cases hk

theorem forget_repL {F : Fid} {M : Mem} : ∀ (ds : List D) (vs : List Value), RepL F M ds vs → RepL F M (ds.map forget1) vs
  | [], vs, x => by simpa only [List.map_nil, RepL] using x
  | d :: ds, vs, x => by
    simp only [List.map_cons, RepL] at x ⊢
    obtain ⟨v, r, e, x1, x2⟩ := x
    refine ⟨v, r, e, ?_, forget_repL ds r x2⟩
    unfold forget1
    split
    · exact x1
    · simp only [RepC]
theorem forget_rep {F : Fid} {M : Mem} {d : D} {v : Value} (h : RepC F M d v) : RepC F M (forget d) v := by
  cases d
  case tup ds =>
    simp only [forget, RepC] at h ⊢
    obtain ⟨vs, e, r⟩ := h
    exact ⟨vs, e, forget_repL ds vs r⟩
  all_goals exact h

/-- The relation of what the calls yield. -/
def runsC (P : Program) (F : Fid) (g : Nat) (ds : List D) (d : D) : List D → Prop
  | [] => True ∧ ∀ f, F g = some f → RunsD P F f ds d
  | [.own sz es] => True ∧ ∀ f, F g = some f → RunsF P F f ds sz es
  | [.nilp] => True ∧ ∀ f, F g = some f → RunsG P F f ds d
  | [.nils] => True ∧ ∀ f, F g = some f → RunsA P F f ds d
  | [.own sz es', .nilp] => True ∧ ∀ f, F g = some f → match ds with
    | .own sz0 es :: ds' => sz0 = sz ∧ RunsS P F f sz es ds' es'
    | _ => False
  | [.own sz es', .nils] => True ∧ ∀ f, F g = some f → match ds with
    | .own sz0 es :: ds' => sz0 = sz ∧ RunsE P F f sz es ds' es'
    | _ => False
  | [.own sz es', .nils, .nils] => True ∧ ∀ f, F g = some f → match ds with
    | .own sz0 es :: ds' => sz0 = sz ∧ RunsI P F f sz es ds' es'
    | _ => False
  | [.blk sz es'] => True ∧ ∀ f, F g = some f → match ds with
    | .blk sz0 es :: ds' => sz0 = sz ∧ RunsL P F f sz es ds' d es'
    | _ => False
  | _ => False

/-- Every function with a number is one of the program over data, or has a proof of its own. -/
theorem runs_closed (hm : P.follows .mixedOrders = true) {prog : Nat → Option NFun} (hnamed : ∀ g f, F g = some f → named P f = true) (hlaid : laidOutB F.P = true) (hP : P = F.P) (hall : ∀ g f nf, F g = some f → prog g = some nf → funOk P F f nf = true) : CSound P F (runsC P F) ∧ Closed prog (runsC P F) := by
  have hs : CSound P F (runsC P F) := ⟨fun g f ds d hg h => h.2 f hg, fun g f ds sz es hg h => h.2 f hg, fun g f sz es ds es' hg h => (h.2 f hg).2, fun g f sz es ds es' hg h => (h.2 f hg).2, fun g f sz es ds es' hg h => (h.2 f hg).2, fun g f ds d hg h => h.2 f hg, fun g f ds R hg h => h.2 f hg, fun g f sz es ds d es' hg h => (h.2 f hg).2, hnamed, hlaid, hP⟩
  refine ⟨hs, fun g nf ds d hp hl hw => ⟨trivial, fun f hf => fun_sound hs hm (hall g f nf hf hp) hl hw⟩, fun g ds d h => ⟨trivial, fun f hf M w vs hh r => ?_⟩, fun g nf ds sz es hp hl hw => ⟨trivial, fun f hf => fun_soundF hs hm (hall g f nf hf hp) hl hw⟩, fun g nf ds d hp hl hw => ⟨trivial, fun f hf => fun_soundG hs hm (hall g f nf hf hp) hl hw⟩, fun g nf ds d sz es es' hp hl hw => ⟨trivial, fun f hf => ⟨rfl, fun_soundL hs hm (hall g f nf hf hp) hl hw⟩⟩, fun g nf ds sz es es' hp hl hpu hsz hw => ⟨trivial, fun f hf => ⟨rfl, fun_soundI hs hm (hall g f nf hf hp) hl hpu hsz hw⟩⟩, fun g nf ds R hp hl hok hw => ⟨trivial, fun f hf => fun_soundA hs hm (hall g f nf hf hp) hl hw⟩⟩
  exact (h.2 f hf M w vs hh r).mono fun e w' ⟨v, M', q1, q2, q3, q4, q5, q6⟩ => ⟨v, M', q1, q2, q3, q4, q5, forget_rep q6⟩
end
end Go.Gv
