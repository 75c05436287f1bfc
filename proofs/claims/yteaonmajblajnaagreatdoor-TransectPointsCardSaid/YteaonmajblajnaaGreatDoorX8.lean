/-
  Texts of the proof: H1, J1, A1, J2, K4, K5, K6, K7, K8, M0, W1, W2, W3, H8, I1, V1, M3, M4, P3, Z1, Z2, V2, Z3, H2, H3, H4, H5, H6, GvX2, H10, H7, H9, H11, H12, V3, V4, Z4, Z5.
-/
import Derived.Test.YteaonmajblajnaaGreatDoorX7
import Derived.Lib.Bytealg
import Derived.Shelf.SlSortCmp.NoneTotal
import Derived.Lib.Mul64
import Derived.Laws.Bits64b
import Derived.Laws.MathBits
set_option linter.all false
set_option linter.unusedSimpArgs false
namespace Go.Gv
structure Spt where
  x : Int
  y : Int
  z : Int
  deriving Inhabited, DecidableEq
structure Fce where
  a : Int
  b : Int
  c : Int
  k : Int
  deriving Inhabited, DecidableEq
structure Msh where
  sn : Bool
  s : List Spt
  fn : Bool
  f : List Fce
def sptC (s : Spt) : List D := [.int .i64 s.x, .int .i64 s.y, .int .i64 s.z]
def fceC (f : Fce) : List D := [.int .i64 f.a, .int .i64 f.b, .int .i64 f.c, .int .i64 f.k]
def mshC (m : Msh) : List D := [slx m.sn (m.s.map sptC), slx m.fn (m.f.map fceC)]
theorem sptC_eq (s : Spt) : sptC s = [.int .i64 s.x, .int .i64 s.y, .int .i64 s.z] := _root_.id rfl
theorem fceC_eq (f : Fce) : fceC f = [.int .i64 f.a, .int .i64 f.b, .int .i64 f.c, .int .i64 f.k] := _root_.id rfl
theorem mshC_eq (m : Msh) : mshC m = [slx m.sn (m.s.map sptC), slx m.fn (m.f.map fceC)] := _root_.id rfl
def spt (m : Msh) (i : Nat) : Spt := m.s[i]!
def fce (m : Msh) (i : Nat) : Fce := m.f[i]!
@[simp high] theorem spt_gb (m : Msh) (i : Nat) : m.s[i]! = spt m i := _root_.id rfl
@[simp high] theorem fce_gb (m : Msh) (i : Nat) : m.f[i]! = fce m i := _root_.id rfl
@[simp high] theorem spt_gd (m : Msh) (i : Nat) : m.s[i]?.getD default = spt m i := by simp only [spt, List.getElem!_eq_getElem?_getD]
@[simp high] theorem fce_gd (m : Msh) (i : Nat) : m.f[i]?.getD default = fce m i := by simp only [fce, List.getElem!_eq_getElem?_getD]
@[simp] theorem spt_g (m : Msh) (i : Nat) (h : i < m.s.length) : m.s[i] = spt m i := (getElem!_pos m.s i h).symm
@[simp] theorem fce_g (m : Msh) (i : Nat) (h : i < m.f.length) : m.f[i] = fce m i := (getElem!_pos m.f i h).symm
abbrev Pnt := Int × Int
def ptD (p : Pnt) : List D := [.int .i64 p.1, .int .i64 p.2]
def ptS (s : Spt) : Pnt := (s.x, s.y)
def okP (p : Pnt) : Bool := -16777216 ≤ p.1 && p.1 ≤ 16777216 && -16777216 ≤ p.2 && p.2 ≤ 16777216
def rightS (s : Spt) : Bool := -16777216 ≤ s.x && s.x ≤ 16777216 && -16777216 ≤ s.y && s.y ≤ 16777216 && -4194304 ≤ s.z && s.z ≤ 4194304
theorem okP_of {s : Spt} (h : rightS s = true) : okP (ptS s) = true := by
  simp only [rightS, Bool.and_eq_true, decide_eq_true_eq] at h
  show okP (s.x, s.y) = true
  simp [okP]
  omega
def turnP (a b c : Pnt) : Int := (b.1 - a.1) * (c.2 - a.2) - (b.2 - a.2) * (c.1 - a.1)
theorem mul_bd {a b k l : Int} (h1 : -k ≤ a) (h2 : a ≤ k) (h3 : -l ≤ b) (h4 : b ≤ l) : -(k * l) ≤ a * b ∧ a * b ≤ k * l := by
  have hk : 0 ≤ k := by omega
  have hl : 0 ≤ l := by omega
  have e1 := Int.mul_nonneg (show 0 ≤ k - a by omega) (show 0 ≤ l - b by omega)
  have e2 := Int.mul_nonneg (show 0 ≤ k + a by omega) (show 0 ≤ l + b by omega)
  have e3 := Int.mul_nonneg (show 0 ≤ k - a by omega) (show 0 ≤ l + b by omega)
  have e4 := Int.mul_nonneg (show 0 ≤ k + a by omega) (show 0 ≤ l - b by omega)
  simp only [Int.sub_mul, Int.mul_sub, Int.add_mul, Int.mul_add] at e1 e2 e3 e4
  omega
theorem okP_bd {p : Pnt} (h : okP p = true) : -16777216 ≤ p.1 ∧ p.1 ≤ 16777216 ∧ -16777216 ≤ p.2 ∧ p.2 ≤ 16777216 := by
  simp only [okP, Bool.and_eq_true, decide_eq_true_eq] at h
  omega
theorem turn_bd {a b c : Pnt} (ha : okP a = true) (hb : okP b = true) (hc : okP c = true) :
    (-1125899906842624 ≤ (b.1 - a.1) * (c.2 - a.2) ∧ (b.1 - a.1) * (c.2 - a.2) ≤ 1125899906842624) ∧ (-1125899906842624 ≤ (b.2 - a.2) * (c.1 - a.1) ∧ (b.2 - a.2) * (c.1 - a.1) ≤ 1125899906842624) := by
  have := okP_bd ha
  have := okP_bd hb
  have := okP_bd hc
  exact ⟨mul_bd (k := 33554432) (l := 33554432) (by omega) (by omega) (by omega) (by omega), mul_bd (k := 33554432) (l := 33554432) (by omega) (by omega) (by omega) (by omega)⟩
abbrev Tri := Pnt × Pnt × Pnt
def triD (t : Tri) : List D := [.int .i64 t.1.1, .int .i64 t.1.2, .int .i64 t.2.1.1, .int .i64 t.2.1.2, .int .i64 t.2.2.1, .int .i64 t.2.2.2]
def okT (t : Tri) : Bool := okP t.1 && okP t.2.1 && okP t.2.2
def turnT (t : Tri) : Int := turnP t.1 t.2.1 t.2.2
def sep1 (p q : Pnt) (u : Tri) : Bool := turnP p q u.1 ≤ 0 && turnP p q u.2.1 ≤ 0 && turnP p q u.2.2 ≤ 0
def sepT (t u : Tri) : Bool := sep1 t.1 t.2.1 u || sep1 t.2.1 t.2.2 u || sep1 t.2.2 t.1 u
def ovT (t u : Tri) : Bool := !sepT t u && !sepT u t
def triF (m : Msh) (f : Fce) : Tri := (ptS (spt m f.a.toNat), ptS (spt m f.b.toNat), ptS (spt m f.c.toNat))
def crn (f : Fce) : Nat → Int
  | 0 => f.a
  | 1 => f.b
  | 2 => f.c
  | 3 => f.a
  | 4 => f.b
  | _ => f.c
def inR1 (n : Nat) (a : Int) : Bool := 0 ≤ a && a < n
def inS (m : Msh) (f : Fce) : Bool := inR1 m.s.length f.a && inR1 m.s.length f.b && inR1 m.s.length f.c
theorem inS_bd {m : Msh} {f : Fce} (h : inS m f = true) : (0 ≤ f.a ∧ f.a.toNat < m.s.length) ∧ (0 ≤ f.b ∧ f.b.toNat < m.s.length) ∧ (0 ≤ f.c ∧ f.c.toNat < m.s.length) := by
  simp only [inS, inR1, Bool.and_eq_true, decide_eq_true_eq] at h
  omega
variable {C : CC} (hC : Closed prog C)
include hC
theorem pValid_c (p : Pnt) : C 313 [.agg (ptD p)] (.bool (okP p)) [] := by
  refine start hC (nf := N313_plane_Valid) rfl rfl ?_
  simp [N313_plane_Valid, ptD, okP]
  repeat' (refine brB_of (fun h => ?_) (fun h => ?_) <;> simp at h <;> simp [h] <;> try omega)
theorem mright_c (s : Spt) : C 303 [.agg (sptC s)] (.bool (rightS s)) [] := by
  have k := pValid_c hC (s.x, s.y)
  simp [ptD, okP] at k
  refine start hC (nf := N303_mesh_right) rfl rfl ?_
  simp [N303_mesh_right, sptC, rightS]
  refine callW_of k (.inl rfl) ?_
  simp
  repeat' (refine brB_of (fun h => ?_) (fun h => ?_) <;> simp at h <;> simp [h] <;> try omega)
theorem msmall_c (m : Msh) : C 302 [.agg (mshC m)] (.bool (decide (m.s.length ≤ 2000) && decide (m.f.length ≤ 4000))) [] := by
  refine start hC (nf := N302_mesh_small) rfl rfl ?_
  simp [N302_mesh_small, mshC]
  refine brB_of (fun h => ?_) (fun h => ?_) <;> simp at h <;> simp [h]
  · rw [decide_eq_true (show m.s.length ≤ 2000 by omega)]
    simp
    exact Iff.intro (fun h2 => by omega) (fun h2 => by omega)
  · omega
theorem mpoint_c (m : Msh) (i : Nat) (h : i < m.s.length) : C 304 [.agg (mshC m), .int .i64 i] (.agg (ptD (ptS (spt m i)))) [] := by
  refine start hC (nf := N304_mesh_point) rfl rfl ?_
  simp [N304_mesh_point, mshC, h, sptC_eq, ptD, ptS]
  exact indW_of (by decide +kernel)
theorem mcorners_c (f : Fce) : C 305 [.agg (fceC f)] (.agg [.int .i64 f.a, .int .i64 f.b, .int .i64 f.c]) [] := by
  refine start hC (nf := N305_mesh_corners) rfl rfl ?_
  simp [N305_mesh_corners, fceC]
theorem mside_c (f : Fce) (k : Nat) (hk : k < 3) : C 298 [.agg (fceC f), .int .i64 k] (.agg [.int .i64 (crn f k), .int .i64 (crn f (k + 1))]) [] := by
  have k1 := mcorners_c hC f
  refine start hC (nf := N298_mesh_side) rfl rfl ?_
  rw [fceC] at k1 ⊢
  simp [N298_mesh_side]
  refine callW_of k1 (.inl rfl) ?_
  have w : IntKind.wrap .i64 ((k : Int) + 1) = ((k + 1 : Nat) : Int) := wrap_i64 (by omega) (by omega)
  have w0 : IntKind.wrap .i64 1 = 1 := by decide
  have w1 : IntKind.wrap .i64 2 = 2 := by decide
  have w2 : IntKind.wrap .i64 3 = 3 := by decide
  rcases (by omega : k = 0 ∨ k = 1 ∨ k = 2) with rfl | rfl | rfl <;> simp [crn, w0, w1, w2] <;> exact indW_of (by decide +kernel)
theorem mturn_c {a b c : Pnt} (ha : okP a = true) (hb : okP b = true) (hc : okP c = true) : C 308 [.agg (ptD a), .agg (ptD b), .agg (ptD c)] (.int .i64 (turnP a b c)) [] := by
  have := okP_bd ha
  have := okP_bd hb
  have := okP_bd hc
  have h4 := turn_bd ha hb hc
  refine start hC (nf := N308_mesh_turn) rfl rfl ?_
  have w1 : IntKind.wrap .i64 (b.1 - a.1) = b.1 - a.1 := wrap_i64 rfl (by omega)
  have w2 : IntKind.wrap .i64 (c.2 - a.2) = c.2 - a.2 := wrap_i64 rfl (by omega)
  have w3 : IntKind.wrap .i64 (b.2 - a.2) = b.2 - a.2 := wrap_i64 rfl (by omega)
  have w4 : IntKind.wrap .i64 (c.1 - a.1) = c.1 - a.1 := wrap_i64 rfl (by omega)
  have w5 : IntKind.wrap .i64 ((b.1 - a.1) * (c.2 - a.2)) = (b.1 - a.1) * (c.2 - a.2) := wrap_i64 rfl (by omega)
  have w6 : IntKind.wrap .i64 ((b.2 - a.2) * (c.1 - a.1)) = (b.2 - a.2) * (c.1 - a.1) := wrap_i64 rfl (by omega)
  have w7 : IntKind.wrap .i64 ((b.1 - a.1) * (c.2 - a.2) - (b.2 - a.2) * (c.1 - a.1)) = turnP a b c := wrap_i64 rfl (by rw [turnP]; omega)
  simp [N308_mesh_turn, ptD, w1, w2, w3, w4, w5, w6, w7]
theorem mtri_c (m : Msh) (f : Fce) (h : inS m f = true) : C 307 [.agg (mshC m), .agg (fceC f)] (.agg (triD (triF m f))) [] := by
  obtain ⟨⟨a1, a2⟩, ⟨b1, b2⟩, ⟨c1, c2⟩⟩ := inS_bd h
  have ka := mpoint_c hC m f.a.toNat a2
  have kb := mpoint_c hC m f.b.toNat b2
  have kc := mpoint_c hC m f.c.toNat c2
  rw [Int.toNat_of_nonneg a1] at ka
  rw [Int.toNat_of_nonneg b1] at kb
  rw [Int.toNat_of_nonneg c1] at kc
  refine start hC (nf := N307_mesh_triangle) rfl rfl ?_
  rw [mshC] at ka kb kc ⊢
  simp [N307_mesh_triangle, fceC]
  simp [ptD] at ka kb kc
  refine callW_of ka (.inl rfl) ?_
  simp
  refine callW_of kb (.inl rfl) ?_
  simp
  refine callW_of kc (.inl rfl) ?_
  simp [triD, triF]
  exact indW_of (by decide +kernel)
end Go.Gv

namespace Go.Gv
def onG (a b p : Pnt) : Bool := decide (turnP a b p = 0) && decide (min a.1 b.1 ≤ p.1) && decide (p.1 ≤ max a.1 b.1) && decide (min a.2 b.2 ≤ p.2) && decide (p.2 ≤ max a.2 b.2)
def apG (a b p q : Pnt) : Bool := (decide (turnP a b p < 0) && decide (0 < turnP a b q)) || (decide (0 < turnP a b p) && decide (turnP a b q < 0))
end Go.Gv

namespace Go.Gv
open Go.Lib Go.Sort Go.Proofs
abbrev Fnd := Int × List UInt8
def fndC (x : Fnd) : List D := [.int .i64 x.1, .str x.2]
structure TC {α : Type} (c : α → α → Int) : Prop where
  eq0 : ∀ x y, c x y = 0 → x = y
  anti : ∀ x y, c y x = - c x y
  trans : ∀ x y z, c x y < 0 → c y z < 0 → c x z < 0
section
variable {α : Type} {c : α → α → Int}
theorem TC.refl (h : TC c) (x : α) : c x x = 0 := by have := h.anti x x; omega
theorem TC.swo (h : TC c) : SWO (ltOf c) where
  irrefl x := by simp [ltOf, h.refl x]
  trans x y z h1 h2 := by
    simp only [ltOf, decide_eq_true_eq] at *
    exact h.trans x y z h1 h2
  ntrans x y z h1 h2 := by
    simp only [ltOf, decide_eq_false_iff_not] at *
    by_cases e1 : c x y = 0
    · rw [h.eq0 _ _ e1]; exact h2
    by_cases e2 : c y z = 0
    · rw [← h.eq0 _ _ e2]; exact h1
    have a1 := h.anti x y
    have a2 := h.anti y z
    have a3 := h.anti x z
    have := h.trans z y x (by omega) (by omega)
    omega
theorem TC.tot (h : TC c) (x y : α) (h1 : (ltOf c) x y = false) (h2 : (ltOf c) y x = false) : x = y := by
  simp only [ltOf, decide_eq_false_iff_not] at *
  have := h.anti x y
  exact h.eq0 x y (by omega)
end
def intC (a b : Int) : Int := if a < b then -1 else if b < a then 1 else 0
def fcmp (x y : Fnd) : Int := if intC x.1 y.1 = 0 then compareBytes x.2 y.2 else intC x.1 y.1
section
variable {α : Type} {c : α → α → Int}
def SrtC (c : α → α → Int) (l : List α) : Prop := l.Pairwise fun x y => c x y < 0
theorem SrtC.unique (h : TC c) : ∀ {l l' : List α}, SrtC c l → SrtC c l' → (∀ x, x ∈ l ↔ x ∈ l') → l = l'
  | [], [], _, _, _ => rfl
  | [], y :: _, _, _, hm => absurd ((hm y).2 (by simp)) (by simp)
  | x :: _, [], _, _, hm => absurd ((hm x).1 (by simp)) (by simp)
  | x :: l, y :: l', hs, hs', hm => by
    obtain ⟨a1, a2⟩ := List.pairwise_cons.1 hs
    obtain ⟨b1, b2⟩ := List.pairwise_cons.1 hs'
    have e : x = y := by
      rcases List.mem_cons.1 ((hm x).1 (by simp)) with e | e
      · exact e
      · rcases List.mem_cons.1 ((hm y).2 (by simp)) with e' | e'
        · exact e'.symm
        · have h1 := b1 x e
          have h2 := a1 y e'
          have := h.anti x y
          omega
    subst e
    rw [SrtC.unique h a2 b2 (fun z => ⟨fun hz => ?_, fun hz => ?_⟩)]
    · rcases List.mem_cons.1 ((hm z).1 (by simp [hz])) with e | e
      · subst e; have := a1 z hz; have := h.refl z; omega
      · exact e
    · rcases List.mem_cons.1 ((hm z).2 (by simp [hz])) with e | e
      · subst e; have := b1 z hz; have := h.refl z; omega
      · exact e
def ddL [DecidableEq α] : List α → List α
  | [] => []
  | [x] => [x]
  | x :: y :: r => if x = y then ddL (y :: r) else x :: ddL (y :: r)
theorem ddL_cons [DecidableEq α] (x y : α) (r : List α) : ddL (x :: y :: r) = if x = y then ddL (y :: r) else x :: ddL (y :: r) := rfl
theorem ddL_mem [DecidableEq α] : ∀ (l : List α) (x : α), x ∈ ddL l ↔ x ∈ l
  | [], x => by simp [ddL]
  | [y], x => by simp [ddL]
  | y :: z :: r, x => by
    rw [ddL_cons]
    have ih := ddL_mem (z :: r) x
    by_cases e : y = z
    · rw [if_pos e, ih]; subst e; simp
    · rw [if_neg e, List.mem_cons, ih]; simp
theorem ddL_srt [DecidableEq α] (h : TC c) : ∀ {l : List α}, (l.Pairwise fun x y => ¬ c y x < 0) → SrtC c (ddL l)
  | [], _ => List.Pairwise.nil
  | [y], _ => by simp [ddL, SrtC]
  | y :: z :: r, hp => by
    obtain ⟨a1, a2⟩ := List.pairwise_cons.1 hp
    have ih := ddL_srt h a2
    rw [ddL_cons]
    by_cases e : y = z
    · rw [if_pos e]; exact ih
    · rw [if_neg e]
      refine List.pairwise_cons.2 ⟨fun w hw => ?_, ih⟩
      have hw2 := (ddL_mem _ _).1 hw
      have h1 := a1 w hw2
      have hyz : c y z < 0 := by
        have h2 := a1 z (by simp)
        have h3 := h.anti y z
        have : c y z ≠ 0 := fun e' => e (h.eq0 _ _ e')
        omega
      rcases List.mem_cons.1 hw2 with e1 | e1
      · subst e1; exact hyz
      · have h4 := (List.pairwise_cons.1 a2).1 w e1
        have h5 := h.anti z w
        by_cases e2 : c z w = 0
        · rw [← h.eq0 _ _ e2]; exact hyz
        · exact h.trans y z w hyz (by omega)
def srtL (c : α → α → Int) (l : List α) : List α := l.mergeSort fun x y => !(ltOf c) y x
theorem srtL_mem {l : List α} {x : α} : x ∈ srtL c l ↔ x ∈ l := by unfold srtL; exact List.mem_mergeSort
theorem srtL_len {l : List α} : (srtL c l).length = l.length := by unfold srtL; exact List.length_mergeSort l
theorem srtL_pw (h : TC c) (l : List α) : (srtL c l).Pairwise fun x y => ¬ c y x < 0 := by
  have h1 := List.pairwise_mergeSort (le := fun x y : α => !(ltOf c) y x) (fun a b d h1 h2 => by
    simp only [Bool.not_eq_true'] at *
    exact h.swo.ntrans _ _ _ h2 h1) (fun a b => by
    simp only [Bool.or_eq_true, Bool.not_eq_true', ltOf, decide_eq_false_iff_not]
    have := h.anti a b
    omega) l
  exact h1.imp fun {x y} hxy => by simpa [ltOf] using hxy
def canL [DecidableEq α] (c : α → α → Int) (l : List α) : List α := ddL (srtL c l)
theorem canL_mem [DecidableEq α] {l : List α} {x : α} : x ∈ canL c l ↔ x ∈ l := by unfold canL; rw [ddL_mem, srtL_mem]
theorem canL_srt [DecidableEq α] (h : TC c) (l : List α) : SrtC c (canL c l) := ddL_srt h (srtL_pw h l)
theorem canL_eq [DecidableEq α] (h : TC c) {l l' : List α} (hs : SrtC c l') (hm : ∀ x, x ∈ l ↔ x ∈ l') : canL c l = l' := (canL_srt h l).unique h hs fun x => by rw [canL_mem]; exact hm x
def putL (c : α → α → Int) (l : List α) (x : α) : List α := l.filter (fun y => decide (c y x < 0)) ++ x :: l.filter (fun y => decide (c x y < 0))
end
end Go.Gv

namespace Go.Gv
def Frq : Type := { q : Int × Int // 0 < q.2 ∧ q.2 ≤ 1073741824 ∧ -1073741824 ≤ q.1 ∧ q.1 ≤ 1073741824 ∧ Nat.gcd q.1.natAbs q.2.natAbs = 1 }
instance : DecidableEq Frq := fun a b => decidable_of_iff (a.1 = b.1) Subtype.ext_iff.symm
def fqC (x y : Frq) : Int := if x.1.1 * y.1.2 < y.1.1 * x.1.2 then -1 else if y.1.1 * x.1.2 < x.1.1 * y.1.2 then 1 else 0
theorem fq_eq {a b c d : Int} (hb : 0 < b) (hd : 0 < d) (h1 : Nat.gcd a.natAbs b.natAbs = 1) (h2 : Nat.gcd c.natAbs d.natAbs = 1) (e : a * d = c * b) : a = c ∧ b = d := by
  have e1 : a.natAbs * d.natAbs = c.natAbs * b.natAbs := by rw [← Int.natAbs_mul, ← Int.natAbs_mul, e]
  have d1 : b.natAbs ∣ d.natAbs := (Nat.Coprime.symm h1 : Nat.Coprime b.natAbs a.natAbs).dvd_of_dvd_mul_left (by rw [e1]; exact Nat.dvd_mul_left _ _)
  have d2 : d.natAbs ∣ b.natAbs := (Nat.Coprime.symm h2 : Nat.Coprime d.natAbs c.natAbs).dvd_of_dvd_mul_left (by rw [← e1]; exact Nat.dvd_mul_left _ _)
  have e3 : b = d := by have := Nat.dvd_antisymm d1 d2; omega
  subst e3
  exact ⟨Int.eq_of_mul_eq_mul_right (by omega) e, rfl⟩
theorem fqC_tc : TC fqC where
  eq0 x y h := by
    unfold fqC at h
    split at h
    · omega
    · split at h
      · omega
      · obtain ⟨e1, e2⟩ := fq_eq x.2.1 y.2.1 x.2.2.2.2.2 y.2.2.2.2.2 (by omega)
        exact Subtype.ext (Prod.ext e1 e2)
  anti x y := by
    unfold fqC
    by_cases h1 : x.1.1 * y.1.2 < y.1.1 * x.1.2
    · have h2 : ¬ y.1.1 * x.1.2 < x.1.1 * y.1.2 := by omega
      rw [if_neg h2, if_pos h1, if_pos h1]; rfl
    · by_cases h2 : y.1.1 * x.1.2 < x.1.1 * y.1.2
      · rw [if_pos h2, if_neg h1, if_pos h2]
      · rw [if_neg h2, if_neg h1, if_neg h1, if_neg h2]; rfl
  trans x y z h1 h2 := by
    have a1 : x.1.1 * y.1.2 < y.1.1 * x.1.2 := by unfold fqC at h1; split at h1 <;> first | assumption | (split at h1 <;> omega)
    have a2 : y.1.1 * z.1.2 < z.1.1 * y.1.2 := by unfold fqC at h2; split at h2 <;> first | assumption | (split at h2 <;> omega)
    have px := x.2.1
    have py := y.2.1
    have pz := z.2.1
    have b1 := Int.mul_lt_mul_of_pos_right a1 pz
    have b2 := Int.mul_lt_mul_of_pos_right a2 px
    have b3 : (x.1.1 * z.1.2) * y.1.2 < (z.1.1 * x.1.2) * y.1.2 := by
      have e1 : x.1.1 * y.1.2 * z.1.2 = (x.1.1 * z.1.2) * y.1.2 := by grind
      have e2 : y.1.1 * x.1.2 * z.1.2 = y.1.1 * z.1.2 * x.1.2 := by grind
      have e3 : z.1.1 * y.1.2 * x.1.2 = (z.1.1 * x.1.2) * y.1.2 := by grind
      omega
    have b4 := Int.lt_of_mul_lt_mul_right b3 (Int.le_of_lt py)
    unfold fqC
    rw [if_pos b4]
    omega
def cutN (num den : Int) : Int × Int := if den < 0 then (-num, -den) else (num, den)
def cutE (num den : Int) : Int :=
  if den = 0 then 16 else if (cutN num den).1 < 0 ∨ (cutN num den).2 < (cutN num den).1 then 2
  else if 1073741824 < (cutN num den).1 / Nat.gcd (cutN num den).1.natAbs (cutN num den).2.natAbs ∨ 1073741824 < (cutN num den).2 / Nat.gcd (cutN num den).1.natAbs (cutN num den).2.natAbs then 5 else 0
def cutQ (num den : Int) : Int × Int := if cutE num den = 0 then ((cutN num den).1 / Nat.gcd (cutN num den).1.natAbs (cutN num den).2.natAbs, (cutN num den).2 / Nat.gcd (cutN num den).1.natAbs (cutN num den).2.natAbs) else (0, 0)
theorem gcd_div {n d : Int} (hn : 0 ≤ n) (hd : 0 < d) : Nat.gcd (n / Nat.gcd n.natAbs d.natAbs).natAbs (d / Nat.gcd n.natAbs d.natAbs).natAbs = 1 ∧ 0 < d / Nat.gcd n.natAbs d.natAbs := by
  have g0 : 0 < Nat.gcd n.natAbs d.natAbs := Nat.gcd_pos_of_pos_right _ (by omega)
  obtain ⟨a, rfl⟩ := Int.eq_ofNat_of_zero_le hn
  obtain ⟨b, rfl⟩ := Int.eq_ofNat_of_zero_le (Int.le_of_lt hd)
  simp only [Int.natAbs_natCast] at *
  have e1 : ((a : Int) / (Nat.gcd a b : Nat)).natAbs = a / Nat.gcd a b := by rw [← Int.natCast_ediv, Int.natAbs_natCast]
  have e2 : ((b : Int) / (Nat.gcd a b : Nat)).natAbs = b / Nat.gcd a b := by rw [← Int.natCast_ediv, Int.natAbs_natCast]
  have e3 := Nat.div_pos (Nat.le_of_dvd (by omega) (Nat.gcd_dvd_right a b)) g0
  exact ⟨by rw [e1, e2]; exact Nat.coprime_div_gcd_div_gcd g0, by rw [← Int.natCast_ediv]; omega⟩
theorem cut_ok {num den : Int} (h : cutE num den = 0) : (0 < (cutQ num den).2 ∧ (cutQ num den).2 ≤ 1073741824 ∧ -1073741824 ≤ (cutQ num den).1 ∧ (cutQ num den).1 ≤ 1073741824 ∧ Nat.gcd (cutQ num den).1.natAbs (cutQ num den).2.natAbs = 1) ∧ 0 ≤ (cutQ num den).1 ∧ (cutQ num den).1 ≤ (cutQ num den).2 := by
  have h' := h
  unfold cutE at h'
  split at h'
  · omega
  · rename_i c0
    split at h'
    · omega
    · rename_i c1
      split at h'
      · omega
      · rename_i c2
        have hd : 0 < (cutN num den).2 := by
          unfold cutN; split <;> simp <;> omega
        have hn : 0 ≤ (cutN num den).1 := by omega
        obtain ⟨g1, g2⟩ := gcd_div hn hd
        unfold cutQ
        rw [if_pos h]
        have g0 : 0 < Nat.gcd (cutN num den).1.natAbs (cutN num den).2.natAbs := Nat.gcd_pos_of_pos_right _ (by omega)
        have hle : (cutN num den).1 / Nat.gcd (cutN num den).1.natAbs (cutN num den).2.natAbs ≤ (cutN num den).2 / Nat.gcd (cutN num den).1.natAbs (cutN num den).2.natAbs := Int.ediv_le_ediv (by omega) (by omega)
        have h0 : 0 ≤ (cutN num den).1 / Nat.gcd (cutN num den).1.natAbs (cutN num den).2.natAbs := Int.ediv_nonneg hn (by omega)
        simp only
        exact ⟨⟨g2, by omega, by omega, by omega, g1⟩, h0, hle⟩
theorem cut_back {x y : Int} (h : (x < 0 ∧ 0 < y) ∨ (0 < x ∧ y < 0)) : cutE x (x - y) = cutE y (y - x) ∧ (cutE x (x - y) = 0 ∨ cutE x (x - y) = 5) ∧ (cutE x (x - y) = 0 → cutQ y (y - x) = ((cutQ x (x - y)).2 - (cutQ x (x - y)).1, (cutQ x (x - y)).2)) := by
  obtain ⟨n, d, hn, hd, e1, e2, z1, z2⟩ : ∃ n d : Int, 0 < n ∧ n < d ∧ cutN x (x - y) = (n, d) ∧ cutN y (y - x) = (d - n, d) ∧ x - y ≠ 0 ∧ y - x ≠ 0 := by
    unfold cutN
    rcases h with h | h
    · refine ⟨-x, y - x, by omega, by omega, ?_, ?_, by omega, by omega⟩
      · rw [if_pos (by omega)]; congr 1; omega
      · rw [if_neg (by omega)]; congr 1; omega
    · refine ⟨x, x - y, by omega, by omega, ?_, ?_, by omega, by omega⟩
      · rw [if_neg (by omega)]
      · rw [if_pos (by omega)]; congr 1 <;> omega
  have hg : Nat.gcd (d - n).natAbs d.natAbs = Nat.gcd n.natAbs d.natAbs := by
    obtain ⟨a, rfl⟩ := Int.eq_ofNat_of_zero_le (Int.le_of_lt hn)
    obtain ⟨b, rfl⟩ := Int.eq_ofNat_of_zero_le (show 0 ≤ d by omega)
    have e : ((b : Int) - a).natAbs = b - a := by omega
    rw [e, Int.natAbs_natCast, Int.natAbs_natCast]
    rw [Nat.gcd_comm (b - a) b, Nat.gcd_self_sub_right (by omega), Nat.gcd_comm]
  have g0 : 0 < Nat.gcd n.natAbs d.natAbs := Nat.gcd_pos_of_pos_right _ (by omega)
  have dn : ((Nat.gcd n.natAbs d.natAbs : Nat) : Int) ∣ n := Int.ofNat_dvd_left.2 (Nat.gcd_dvd_left _ _)
  have dd : ((Nat.gcd n.natAbs d.natAbs : Nat) : Int) ∣ d := Int.ofNat_dvd_left.2 (Nat.gcd_dvd_right _ _)
  have hs : (d - n) / ((Nat.gcd n.natAbs d.natAbs : Nat) : Int) = d / ((Nat.gcd n.natAbs d.natAbs : Nat) : Int) - n / ((Nat.gcd n.natAbs d.natAbs : Nat) : Int) := Int.sub_ediv_of_dvd _ dn
  have hle : n / ((Nat.gcd n.natAbs d.natAbs : Nat) : Int) ≤ d / ((Nat.gcd n.natAbs d.natAbs : Nat) : Int) := Int.ediv_le_ediv (by omega) (by omega)
  have h0 : 0 ≤ n / ((Nat.gcd n.natAbs d.natAbs : Nat) : Int) := Int.ediv_nonneg (by omega) (by omega)
  have f1 : cutE x (x - y) = if 1073741824 < d / ((Nat.gcd n.natAbs d.natAbs : Nat) : Int) then 5 else 0 := by
    unfold cutE
    rw [if_neg z1, e1]
    simp only
    rw [if_neg (by omega)]
    by_cases c : 1073741824 < d / ((Nat.gcd n.natAbs d.natAbs : Nat) : Int)
    · rw [if_pos (.inr c), if_pos c]
    · rw [if_neg (by omega), if_neg c]
  have f2 : cutE y (y - x) = if 1073741824 < d / ((Nat.gcd n.natAbs d.natAbs : Nat) : Int) then 5 else 0 := by
    unfold cutE
    rw [if_neg z2, e2]
    simp only
    rw [if_neg (by omega), hg, hs]
    by_cases c : 1073741824 < d / ((Nat.gcd n.natAbs d.natAbs : Nat) : Int)
    · rw [if_pos (.inr c), if_pos c]
    · rw [if_neg (by omega), if_neg c]
  refine ⟨by rw [f1, f2], by rw [f1]; split <;> simp, fun h0 => ?_⟩
  have h00 : cutE y (y - x) = 0 := by rw [f2, ← f1]; exact h0
  unfold cutQ
  rw [if_pos h0, if_pos h00, e1, e2]
  simp only
  rw [hg, hs]
end Go.Gv

set_option linter.unusedSimpArgs false
namespace Go.Gv
open Go.Lib
theorem maskN (a : Nat) (ha : a < 18446744073709551616) : bits .and .u64 (a : Int) 4294967295 = ((a % 4294967296 : Nat) : Int) := by
  have h := bits_and_u64_nat a 4294967295 ha (by omega)
  have e : a &&& 4294967295 = a % 4294967296 := Nat.and_two_pow_sub_one_eq_mod a 32
  rw [e] at h
  exact h
theorem shrN (a k : Nat) : Int.fdiv (a : Int) (2 ^ k) = ((a / 2 ^ k : Nat) : Int) := by
  rw [Int.fdiv_eq_ediv_of_nonneg _ (by exact Int.pow_nonneg (by omega))]
  norm_cast
theorem shr32 (a : Nat) : Int.fdiv (a : Int) (2 ^ min 32 IntKind.u64.bits) = ((a / 4294967296 : Nat) : Int) := shrN a 32
theorem mulN (a b : Nat) : (a : Int) * (b : Int) = ((a * b : Nat) : Int) := (Int.natCast_mul a b).symm
theorem addN (a b : Nat) : (a : Int) + (b : Int) = ((a + b : Nat) : Int) := (Int.natCast_add a b).symm
theorem wrapN (a : Nat) (ha : a < 18446744073709551616) : IntKind.u64.wrap (a : Int) = (a : Int) := by
  have e1 : IntKind.u64.signed = false := rfl
  have e3 : (2 ^ IntKind.u64.bits : Int) = 18446744073709551616 := rfl
  unfold IntKind.wrap
  simp only [e1, e3, Bool.false_and]
  simp
  omega
theorem wrapM (a : Nat) : IntKind.u64.wrap (a : Int) = ((a % 18446744073709551616 : Nat) : Int) := by
  have e1 : IntKind.u64.signed = false := rfl
  have e3 : (2 ^ IntKind.u64.bits : Int) = 18446744073709551616 := rfl
  unfold IntKind.wrap
  simp only [e1, e3, Bool.false_and]
  simp
variable {C : CC} (hC : Closed prog C)
include hC
theorem Mul64_c (x y : Nat) (hx : x < 18446744073709551616) (hy : y < 18446744073709551616) : C 91 [.int .u64 x, .int .u64 y] (.tup [.int .u64 ((x * y / 18446744073709551616 : Nat) : Int), .int .u64 ((x * y % 18446744073709551616 : Nat) : Int)]) [] := by
  refine start hC (nf := N91_math_bits_Mul64) rfl rfl ?_
  obtain ⟨bd, bt, bw, hhi⟩ := Lib.mul64_hi x y hx hy
  have ba := Lib.half_mul_le (a := x / 4294967296) (b := y / 4294967296) (by omega) (by omega)
  have bb := Lib.half_mul_le (a := x / 4294967296) (b := y % 4294967296) (by omega) (by omega)
  have bc := Lib.half_mul_le (a := x % 4294967296) (b := y / 4294967296) (by omega) (by omega)
  have ba' : x / 4294967296 * (y / 4294967296) < 18446744073709551616 := by omega
  have bb' : x / 4294967296 * (y % 4294967296) < 18446744073709551616 := by omega
  have bc' : x % 4294967296 * (y / 4294967296) < 18446744073709551616 := by omega
  have bh1 : x / 4294967296 * (y / 4294967296) + (x / 4294967296 * (y % 4294967296) + x % 4294967296 * (y % 4294967296) / 4294967296) / 4294967296 < 18446744073709551616 := by omega
  have bh : x / 4294967296 * (y / 4294967296) + (x / 4294967296 * (y % 4294967296) + x % 4294967296 * (y % 4294967296) / 4294967296) / 4294967296 + ((x / 4294967296 * (y % 4294967296) + x % 4294967296 * (y % 4294967296) / 4294967296) % 4294967296 + x % 4294967296 * (y / 4294967296)) / 4294967296 < 18446744073709551616 := by omega
  simp [N91_math_bits_Mul64]
  simp only [maskN x hx, maskN y hy, shr32, mulN, addN, wrapN _ bd, wrapN _ bb', wrapN _ bt, maskN _ bt, wrapN _ bc', wrapN _ bw, wrapN _ ba', wrapN _ bh1, wrapN _ bh, wrapM (x * y)]
  rw [hhi]
  exact ⟨by omega, by omega⟩
end Go.Gv

set_option linter.unusedSimpArgs false
namespace Go.Gv
theorem shr16 (a : Nat) : Int.fdiv (a : Int) (2 ^ min 16 IntKind.u64.bits) = ((a / 65536 : Nat) : Int) := shrN a 16
theorem shr8 (a : Nat) : Int.fdiv (a : Int) (2 ^ min 8 IntKind.u64.bits) = ((a / 256 : Nat) : Int) := shrN a 8
theorem wrap8 (a : Nat) (h : a < 256) : IntKind.u8.wrap (a : Int) = (a : Int) := by
  have e1 : IntKind.u8.signed = false := rfl
  have e3 : (2 ^ IntKind.u8.bits : Int) = 256 := rfl
  unfold IntKind.wrap
  simp only [e1, e3, Bool.false_and]
  simp
  omega
theorem len8t_spec : S1.length = 256 ∧ ∀ n : Fin 256, S1[n.val]?.getD 0 = UInt8.ofNat (bitLen n.val) ∧ bitLen n.val ≤ 8 := by decide +kernel
theorem len8_fin {x n z : Nat} {m : Int} (hz : z < 256) (hm : m = n) (hn : n ≤ 56) (h : n + bitLen z = bitLen x) : 0 ≤ IntKind.u8.wrap (z : Int) ∧ (IntKind.u8.wrap (z : Int)).toNat < S1.length ∧ IntKind.i64.wrap (m + IntKind.i64.wrap ↑(S1[(IntKind.u8.wrap (z : Int)).toNat]?.getD default).toNat) = (bitLen x : Int) := by
  rw [wrap8 z hz]
  obtain ⟨h1, h2⟩ := len8t_spec
  obtain ⟨h3, h4⟩ := h2 ⟨z, hz⟩
  have e : (S1[(z : Int).toNat]?.getD default).toNat = bitLen z := by
    show (S1[z]?.getD 0).toNat = bitLen z
    simp only at h3 h4
    rw [h3, UInt8.toNat_ofNat']
    omega
  simp only at h4
  rw [e]
  have e2 : IntKind.i64.wrap (bitLen z : Int) = (bitLen z : Int) := wrap_i64 rfl (by omega)
  refine ⟨by omega, by omega, ?_⟩
  rw [e2, hm]
  exact wrap_i64 (by omega) (by omega)
variable {C : CC} (hC : Closed prog C)
include hC
theorem Len64_c (x : Nat) (hx : x < 18446744073709551616) : C 111 [.int .u64 x] (.int .i64 (bitLen x)) [] := by
  refine start hC (nf := N111_math_bits_Len64) rfl rfl ?_
  have key : ∀ (b z : Nat), 2 ^ b ≤ z → bitLen z = b + bitLen (z / 2 ^ b) := fun b z h => bitLen_shift z b (by
    have := Nat.div_pos h (Nat.two_pow_pos b)
    omega)
  simp [N111_math_bits_Len64]
  refine brB_of (fun h1 => ?_) (fun h1 => ?_) <;> simp at h1
  · obtain ⟨y, hy⟩ : ∃ y : Nat, y = x / 4294967296 := ⟨_, rfl⟩
    have e1 : Int.fdiv (x : Int) (2 ^ min 32 IntKind.u64.bits) = (y : Int) := by rw [shr32, hy]
    have k1 := key 32 x (by omega)
    simp [e1]
    refine brB_of (fun h2 => ?_) (fun h2 => ?_) <;> simp at h2
    · obtain ⟨z, hz⟩ : ∃ z : Nat, z = y / 65536 := ⟨_, rfl⟩
      have e2 : Int.fdiv (y : Int) (2 ^ min 16 IntKind.u64.bits) = (z : Int) := by rw [shr16, hz]
      have k2 := key 16 y (by omega)
      simp [e2]
      refine brB_of (fun h3 => ?_) (fun h3 => ?_) <;> simp at h3
      · obtain ⟨v, hv⟩ : ∃ v : Nat, v = z / 256 := ⟨_, rfl⟩
        have e3 : Int.fdiv (z : Int) (2 ^ min 8 IntKind.u64.bits) = (v : Int) := by rw [shr8, hv]
        have k3 := key 8 z (by omega)
        simp [e3]
        refine len8_fin (n := 56) (by omega) ?_ (by omega) ?_
        · decide
        · simp only [Nat.reducePow] at k1 k2 k3
          rw [← hy] at k1; rw [← hz] at k2; rw [← hv] at k3; omega
      · simp
        refine len8_fin (n := 48) (by omega) ?_ (by omega) ?_
        · decide
        · simp only [Nat.reducePow] at k1 k2
          rw [← hy] at k1; rw [← hz] at k2; omega
    · simp
      refine brB_of (fun h3 => ?_) (fun h3 => ?_) <;> simp at h3
      · obtain ⟨v, hv⟩ : ∃ v : Nat, v = y / 256 := ⟨_, rfl⟩
        have e3 : Int.fdiv (y : Int) (2 ^ min 8 IntKind.u64.bits) = (v : Int) := by rw [shr8, hv]
        have k3 := key 8 y (by omega)
        simp [e3]
        refine len8_fin (n := 40) (by omega) ?_ (by omega) ?_
        · decide
        · simp only [Nat.reducePow] at k1 k3
          rw [← hy] at k1; rw [← hv] at k3; omega
      · simp
        refine len8_fin (n := 32) (by omega) ?_ (by omega) ?_
        · decide
        · simp only [Nat.reducePow] at k1
          rw [← hy] at k1; omega
  · simp
    refine brB_of (fun h2 => ?_) (fun h2 => ?_) <;> simp at h2
    · obtain ⟨z, hz⟩ : ∃ z : Nat, z = x / 65536 := ⟨_, rfl⟩
      have e2 : Int.fdiv (x : Int) (2 ^ min 16 IntKind.u64.bits) = (z : Int) := by rw [shr16, hz]
      have k2 := key 16 x (by omega)
      simp [e2]
      refine brB_of (fun h3 => ?_) (fun h3 => ?_) <;> simp at h3
      · obtain ⟨v, hv⟩ : ∃ v : Nat, v = z / 256 := ⟨_, rfl⟩
        have e3 : Int.fdiv (z : Int) (2 ^ min 8 IntKind.u64.bits) = (v : Int) := by rw [shr8, hv]
        have k3 := key 8 z (by omega)
        simp [e3]
        refine len8_fin (n := 24) (by omega) ?_ (by omega) ?_
        · decide
        · simp only [Nat.reducePow] at k2 k3
          rw [← hz] at k2; rw [← hv] at k3; omega
      · simp
        refine len8_fin (n := 16) (by omega) ?_ (by omega) ?_
        · decide
        · simp only [Nat.reducePow] at k2
          rw [← hz] at k2; omega
    · simp
      refine brB_of (fun h3 => ?_) (fun h3 => ?_) <;> simp at h3
      · obtain ⟨v, hv⟩ : ∃ v : Nat, v = x / 256 := ⟨_, rfl⟩
        have e3 : Int.fdiv (x : Int) (2 ^ min 8 IntKind.u64.bits) = (v : Int) := by rw [shr8, hv]
        have k3 := key 8 x (by omega)
        simp [e3]
        refine len8_fin (n := 8) (by omega) ?_ (by omega) ?_
        · decide
        · simp only [Nat.reducePow] at k3
          rw [← hv] at k3; omega
      · simp
        have := len8_fin (x := x) (n := 0) (m := 0) (z := x) (by omega) rfl (by omega) (by omega)
        simpa using this
theorem LeadingZeros64_c (x : Nat) (hx : x < 18446744073709551616) : C 102 [.int .u64 x] (.int .i64 ((64 - bitLen x : Nat) : Int)) [] := by
  have hb : bitLen x ≤ 64 := by
    unfold bitLen
    split
    · omega
    · rename_i h
      have := (Nat.log2_lt h).2 (show x < 2 ^ 64 by omega)
      omega
  refine start hC (nf := N102_math_bits_LeadingZeros64) rfl rfl ?_
  simp [N102_math_bits_LeadingZeros64]
  refine callW_of (Len64_c hC x hx) (.inl rfl) ?_
  have e : IntKind.wrap .i64 (64 - (bitLen x : Int)) = ((64 - bitLen x : Nat) : Int) := wrap_i64 (by omega) (by omega)
  simp [e]
end Go.Gv

namespace Go.Gv
structure DvI (u d a b q r : Nat) : Prop where
  sum : q * a + r = u
  ge : (u * 4294967296 + d) / (a * 4294967296 + b) ≤ q
  rlt : r < 4294967296
  qle : q ≤ 4294967297
section
variable {u d a b q r : Nat}
theorem Dv.mul (h : q * a + r = u) : q * (a * 4294967296 + b) + r * 4294967296 = u * 4294967296 + q * b := by
  subst h
  rw [Nat.mul_add, ← Nat.mul_assoc, Nat.add_mul]
  omega
theorem Dv.lt (_ : 0 < a) (hu : u < a * 4294967296 + b) (hd : d < 4294967296) : (u * 4294967296 + d) / (a * 4294967296 + b) < 4294967296 := by
  rw [Nat.div_lt_iff_lt_mul (by omega)]
  have : (u + 1) * 4294967296 ≤ (a * 4294967296 + b) * 4294967296 := Nat.mul_le_mul_right _ hu
  omega
theorem DvI.first (ha : 2147483648 ≤ a) (ha2 : a < 4294967296) (hb : b < 4294967296) (hu : u < a * 4294967296 + b) (hd : d < 4294967296) : DvI u d a b (u / a) (u % a) where
  sum := by rw [Nat.mul_comm]; exact Nat.div_add_mod u a
  rlt := by have := Nat.mod_lt u (show 0 < a by omega); omega
  ge := by
    rw [Nat.le_div_iff_mul_le (by omega)]
    have h := Nat.div_mul_le_self (u * 4294967296 + d) (a * 4294967296 + b)
    generalize (u * 4294967296 + d) / (a * 4294967296 + b) = Q at *
    rw [Nat.mul_add, ← Nat.mul_assoc] at h
    generalize Q * b = z at *
    generalize Q * a = x at *
    omega
  qle := by
    have : u / a < 4294967298 := by
      rw [Nat.div_lt_iff_lt_mul (by omega)]
      omega
    omega
theorem DvI.more (h : DvI u d a b q r) (ha : 0 < a) (hu : u < a * 4294967296 + b) (hd : d < 4294967296) (hc : 4294967296 ≤ q ∨ 4294967296 * r + d < q * b) : (u * 4294967296 + d) / (a * 4294967296 + b) + 1 ≤ q := by
  rcases hc with hc | hc
  · have := Dv.lt (d := d) ha hu hd
    omega
  · have h1 := Dv.mul (b := b) h.sum
    have : (u * 4294967296 + d) / (a * 4294967296 + b) < q := by
      rw [Nat.div_lt_iff_lt_mul (by omega)]
      generalize q * (a * 4294967296 + b) = z at *
      generalize q * b = x at *
      omega
    omega
theorem DvI.done (h : DvI u d a b q r) (ha : 0 < a) (hc : q * b ≤ 4294967296 * r + d) : q = (u * 4294967296 + d) / (a * 4294967296 + b) := by
  have h1 := Dv.mul (b := b) h.sum
  have h2 := h.ge
  have : q ≤ (u * 4294967296 + d) / (a * 4294967296 + b) := by
    rw [Nat.le_div_iff_mul_le (by omega)]
    generalize q * (a * 4294967296 + b) = z at *
    generalize q * b = x at *
    omega
  omega
theorem DvI.next (h : DvI u d a b q r) (ha : 0 < a) (hu : u < a * 4294967296 + b) (hd : d < 4294967296) (hc : 4294967296 ≤ q ∨ 4294967296 * r + d < q * b) :
    1 ≤ q ∧ (q - 1) * a + (r + a) = u ∧ (u * 4294967296 + d) / (a * 4294967296 + b) ≤ q - 1 ∧ q - 1 ≤ 4294967296 := by
  have h1 := h.more ha hu hd hc
  have h2 := h.qle
  have h3 := h.sum
  generalize (u * 4294967296 + d) / (a * 4294967296 + b) = Q at *
  obtain ⟨q', rfl⟩ : ∃ q', q = q' + 1 := ⟨q - 1, by omega⟩
  refine ⟨by omega, ?_, by omega, by omega⟩
  rw [Nat.add_mul] at h3
  simp only [Nat.add_sub_cancel]
  omega
theorem Dv.stop (hs : q * a + r = u) (hg : (u * 4294967296 + d) / (a * 4294967296 + b) ≤ q) (hq : q ≤ 4294967296) (ha : 0 < a) (hb : b < 4294967296) (hr : 4294967296 ≤ r) : q = (u * 4294967296 + d) / (a * 4294967296 + b) := by
  have h1 := Dv.mul (b := b) hs
  have h3 : q * b ≤ 4294967296 * 4294967295 := Nat.mul_le_mul hq (by omega)
  have : q ≤ (u * 4294967296 + d) / (a * 4294967296 + b) := by
    rw [Nat.le_div_iff_mul_le (by omega)]
    generalize q * (a * 4294967296 + b) = z at *
    generalize q * b = x at *
    omega
  omega
theorem DvI.bnd (h : DvI u d a b q r) (hb : b < 4294967296) : q * b < 18446744073709551616 := by
  have := Nat.mul_le_mul h.qle (show b ≤ 4294967295 by omega)
  omega
end
theorem dv_all {N y S A K un0 y' : Nat} (hy : 0 < y) (hs : 0 < S) (hy' : y' = y * S) (hn : N * S = A * K + un0) :
    A / y' * K + (A % y' * K + un0) / y' = N / y ∧ (A % y' * K + un0) % y' / S = N % y := by
  have hyp : 0 < y' := by rw [hy']; exact Nat.mul_pos hy hs
  have e1 := Nat.div_add_mod A y'
  have e2 := Nat.div_add_mod (A % y' * K + un0) y'
  have l2 := Nat.mod_lt (A % y' * K + un0) hyp
  have tot : y' * (A / y' * K + (A % y' * K + un0) / y') + (A % y' * K + un0) % y' = N * S := by
    rw [hn, Nat.mul_add, Nat.add_assoc, e2, ← Nat.mul_assoc, ← Nat.add_assoc, ← Nat.add_mul, e1]
  have hq : N * S / y' = A / y' * K + (A % y' * K + un0) / y' := by
    rw [← tot, Nat.mul_add_div hyp, Nat.div_eq_of_lt l2, Nat.add_zero]
  have hr : N * S % y' = (A % y' * K + un0) % y' := by
    rw [← tot, Nat.mul_add_mod, Nat.mod_eq_of_lt l2]
  rw [hy', Nat.mul_div_mul_right _ _ hs] at hq
  rw [hy', Nat.mul_mod_mul_right] at hr
  rw [hy'] at *
  exact ⟨hq.symm, by rw [← hr, Nat.mul_div_cancel _ hs]⟩
end Go.Gv

set_option linter.unusedSimpArgs false
namespace Go.Gv
theorem tdivN (a b : Nat) : Int.tdiv (a : Int) (b : Int) = ((a / b : Nat) : Int) := by
  rw [Int.tdiv_eq_ediv_of_nonneg (by omega)]; norm_cast
theorem tmodN (a b : Nat) : Int.tmod (a : Int) (b : Int) = ((a % b : Nat) : Int) := by
  rw [Int.tmod_eq_emod_of_nonneg (by omega)]; norm_cast
theorem wrapU (a : Int) : IntKind.u64.wrap a = a % 18446744073709551616 := by
  have e1 : IntKind.u64.signed = false := rfl
  have e3 : (2 ^ IntKind.u64.bits : Int) = 18446744073709551616 := rfl
  unfold IntKind.wrap
  simp only [e1, e3, Bool.false_and]
  simp
theorem orN (a b i : Nat) (hb : b < 2 ^ i) (h : a * 2 ^ i + b < 18446744073709551616) : bits .or .u64 ((a * 2 ^ i : Nat) : Int) (b : Int) = ((a * 2 ^ i + b : Nat) : Int) := by
  rw [bits_or_u64_nat _ _ (by omega) (by omega), Nat.mul_comm a, Nat.two_pow_add_eq_or_of_lt hb]
theorem mul_shift (a m b s : Nat) : (a * m + b) * s = a * s * m + b * s := by rw [Nat.add_mul, Nat.mul_right_comm]
theorem tot_l {H B W U d1 d0 : Nat} (hU : U = H + B) (h1 : d1 = W / 4294967296) (h0 : d0 = W % 4294967296) : H * 18446744073709551616 + (B * 18446744073709551616 + W) = (U * 4294967296 + d1) * 4294967296 + d0 := by omega
theorem norm_y {y s : Nat} (h0 : y ≠ 0) (hy : y < 18446744073709551616) (hs : s = 64 - bitLen y) : s ≤ 63 ∧ 9223372036854775808 ≤ y * 2 ^ s ∧ y * 2 ^ s < 18446744073709551616 := by
  obtain ⟨h1, h2⟩ := bitLen_spec y
  have h3 := h2 h0
  have hb : bitLen y ≤ 64 := by
    unfold bitLen
    rw [if_neg h0]
    have := (Nat.log2_lt h0).2 (show y < 2 ^ 64 by omega)
    omega
  have hb1 : 1 ≤ bitLen y := by unfold bitLen; rw [if_neg h0]; omega
  have e : bitLen y + s = 64 := by omega
  refine ⟨by omega, ?_, ?_⟩
  · have := Nat.mul_le_mul_right (2 ^ s) h3
    rw [← Nat.pow_add, show bitLen y - 1 + s = 63 by omega] at this
    omega
  · have := Nat.mul_lt_mul_of_pos_right h1 (Nat.two_pow_pos s)
    rw [← Nat.pow_add, e] at this
    omega
variable {C : CC} (hC : Closed prog C)
include hC
theorem Div64_c (hi lo y : Nat) (h : hi < y) (hy : y < 18446744073709551616) (hl : lo < 18446744073709551616) :
    C 92 [.int .u64 hi, .int .u64 lo, .int .u64 y] (.tup [.int .u64 (((hi * 18446744073709551616 + lo) / y : Nat) : Int), .int .u64 (((hi * 18446744073709551616 + lo) % y : Nat) : Int)]) [] := by
  refine start hC (nf := N92_math_bits_Div64) rfl rfl ?_
  have h1 : ¬ y = 0 := by omega
  have h2 : ¬ y ≤ hi := by omega
  generalize hres : D.tup [D.int .u64 (((hi * 18446744073709551616 + lo) / y : Nat) : Int), .int .u64 (((hi * 18446744073709551616 + lo) % y : Nat) : Int)] = res
  simp [N92_math_bits_Div64]
  refine brB_of (fun h => ?_) (fun _ => ?_)
  · simp at h; omega
  simp
  refine brB_of (fun h => ?_) (fun _ => ?_)
  · simp at h; omega
  simp
  refine brB_of (fun h => ?_) (fun h3 => ?_)
  · simp at h
    have : hi = 0 := by omega
    subst this
    have hq : lo / y < 18446744073709551616 := by have := Nat.div_le_self lo y; omega
    obtain ⟨q, hq'⟩ : ∃ q, q = lo / y := ⟨_, rfl⟩
    obtain ⟨r, hr'⟩ : ∃ r, r = lo % y := ⟨_, rfl⟩
    have e1 : Int.tdiv (lo : Int) (y : Int) = (q : Int) := by rw [tdivN, hq']
    have e2 : Int.tmod (lo : Int) (y : Int) = (r : Int) := by rw [tmodN, hr']
    simp [h1, e1, e2, wrapN q (by omega)]
    refine ⟨indW_of (by decide +kernel), ?_⟩
    rw [← hres, hq', hr', Nat.zero_mul, Nat.zero_add]
  simp
  refine callW_of (LeadingZeros64_c hC y hy) (.inl rfl) ?_
  generalize hs : 64 - bitLen y = s
  obtain ⟨s1, s2, s3⟩ := norm_y h1 hy hs.symm
  have w1 : IntKind.u64.wrap (s : Int) = (s : Int) := wrapN _ (by omega)
  have w2 : IntKind.u64.wrap (64 - (s : Int)) = ((64 - s : Nat) : Int) := by rw [wrapU]; omega
  have m1 : min s IntKind.u64.bits = s := by show min s 64 = s; omega
  have m2 : min (64 - s) IntKind.u64.bits = 64 - s := by show min (64 - s) 64 = 64 - s; omega
  obtain ⟨Y, hY⟩ : ∃ Y, Y = y * 2 ^ s := ⟨_, rfl⟩
  obtain ⟨H, hH⟩ : ∃ H, H = hi * 2 ^ s := ⟨_, rfl⟩
  obtain ⟨W, hW⟩ : ∃ W, W = lo * 2 ^ s % 18446744073709551616 := ⟨_, rfl⟩
  obtain ⟨B, hB⟩ : ∃ B, B = lo / 2 ^ (64 - s) := ⟨_, rfl⟩
  rw [← hY] at s2 s3
  have hHY : H + 2 ^ s ≤ Y := by
    have := Nat.mul_le_mul_right (2 ^ s) h
    rw [hH, hY]
    rw [Nat.succ_mul] at this
    exact this
  have hBs : B < 2 ^ s := by
    rw [hB, Nat.div_lt_iff_lt_mul (Nat.two_pow_pos _), ← Nat.pow_add, show s + (64 - s) = 64 by omega]
    exact hl
  obtain ⟨U, hU⟩ : ∃ U, U = H + B := ⟨_, rfl⟩
  have hUY : U < Y := by omega
  have eY : IntKind.u64.wrap ((y : Int) * 2 ^ s) = (Y : Int) := by
    rw [show (y : Int) * 2 ^ s = (Y : Int) by rw [hY]; norm_cast]; exact wrapN _ s3
  have eH : IntKind.u64.wrap ((hi : Int) * 2 ^ s) = (H : Int) := by
    rw [show (hi : Int) * 2 ^ s = (H : Int) by rw [hH]; norm_cast]; exact wrapN _ (by omega)
  have eW : IntKind.u64.wrap ((lo : Int) * 2 ^ s) = (W : Int) := by
    rw [show (lo : Int) * 2 ^ s = ((lo * 2 ^ s : Nat) : Int) by norm_cast, wrapM, hW]
  have eB : Int.fdiv (lo : Int) (2 ^ (64 - s)) = (B : Int) := by rw [shrN, hB]
  have eU : bits .or .u64 (H : Int) (B : Int) = (U : Int) := by
    rw [hU, hH]; exact orN hi B s hBs (by omega)
  obtain ⟨Y1, hY1⟩ : ∃ Y1, Y1 = Y / 4294967296 := ⟨_, rfl⟩
  obtain ⟨Y0, hY0⟩ : ∃ Y0, Y0 = Y % 4294967296 := ⟨_, rfl⟩
  obtain ⟨d1, hd1⟩ : ∃ d1, d1 = W / 4294967296 := ⟨_, rfl⟩
  obtain ⟨d0, hd0⟩ : ∃ d0, d0 = W % 4294967296 := ⟨_, rfl⟩
  have eY1 : Int.fdiv (Y : Int) (2 ^ min 32 IntKind.u64.bits) = (Y1 : Int) := by rw [shr32, hY1]
  have eY0 : bits .and .u64 (Y : Int) 4294967295 = (Y0 : Int) := by rw [maskN _ s3, hY0]
  have hW64 : W < 18446744073709551616 := by rw [hW]; exact Nat.mod_lt _ (by omega)
  have ed1 : Int.fdiv (W : Int) (2 ^ min 32 IntKind.u64.bits) = (d1 : Int) := by rw [shr32, hd1]
  have ed0 : bits .and .u64 (W : Int) 4294967295 = (d0 : Int) := by rw [maskN _ hW64, hd0]
  have hY1a : 2147483648 ≤ Y1 := by omega
  have hY1b : Y1 < 4294967296 := by omega
  have hY0b : Y0 < 4294967296 := by omega
  have hd1b : d1 < 4294967296 := by omega
  have hd0b : d0 < 4294967296 := by omega
  have hYs : Y1 * 4294967296 + Y0 = Y := by omega
  have nz : ¬ Y1 = 0 := by omega
  have inv1 := DvI.first hY1a hY1b hY0b (u := U) (d := d1) (by omega) hd1b
  obtain ⟨q, hq⟩ : ∃ q, q = U / Y1 := ⟨_, rfl⟩
  obtain ⟨r, hr⟩ : ∃ r, r = U % Y1 := ⟨_, rfl⟩
  rw [← hq, ← hr] at inv1
  have eq1 : Int.tdiv (U : Int) (Y1 : Int) = (q : Int) := by rw [tdivN, hq]
  have eq2 : IntKind.u64.wrap (q : Int) = (q : Int) := wrapN _ (by have := inv1.qle; omega)
  have sub1 : ∀ (u a q r : Nat), q * a + r = u → u < 18446744073709551616 → IntKind.u64.wrap ((u : Int) - IntKind.u64.wrap ((q : Int) * (a : Int))) = (r : Int) := fun u a q r e hu => by
    rw [mulN, wrapU, wrapU]
    generalize q * a = z at *
    omega
  have er : IntKind.u64.wrap ((U : Int) - IntKind.u64.wrap ((q : Int) * (Y1 : Int))) = (r : Int) := sub1 _ _ _ _ inv1.sum (by omega)
  simp [w1, w2, m1, m2, eY, eH, eW, eB, eU, eY1, eY0, ed1, ed0, eq1, eq2, er, nz]
  have bm : ∀ {u d q r : Nat}, DvI u d Y1 Y0 q r → IntKind.u64.wrap ((q : Int) * (Y0 : Int)) = ((q * Y0 : Nat) : Int) := fun i => by rw [mulN]; exact wrapN _ (i.bnd hY0b)
  have bp : ∀ {u d q r : Nat}, d < 4294967296 → DvI u d Y1 Y0 q r → IntKind.u64.wrap (IntKind.u64.wrap (4294967296 * (r : Int)) + (d : Int)) = ((4294967296 * r + d : Nat) : Int) := fun {u d q r} hd i => by
    have := i.rlt
    rw [show (4294967296 : Int) * (r : Int) = ((4294967296 * r : Nat) : Int) by omega, wrapN (4294967296 * r) (by omega), addN]
    exact wrapN _ (by omega)
  obtain ⟨Q1, hQ1⟩ : ∃ Q1, Q1 = (U * 4294967296 + d1) / (Y1 * 4294967296 + Y0) := ⟨_, rfl⟩
  refine loop_out 0 Nat (fun x => [(2, .int .u64 Y), (8, .int .u64 s), (9, .int .u64 Y1), (10, .int .u64 Y0), (11, .int .u64 U), (13, .int .u64 d1), (14, .int .u64 d0), (15, .int .u64 x)]) (fun x => x = Q1) ?_ ?_
  · refine loop_of (Nat × Nat) (fun x => [(2, .int .u64 Y), (8, .int .u64 s), (9, .int .u64 Y1), (10, .int .u64 Y0), (11, .int .u64 U), (13, .int .u64 d1), (14, .int .u64 d0), (15, .int .u64 x.1), (16, .int .u64 x.2)]) (fun x => DvI U d1 Y1 Y0 x.1 x.2) (fun x => 4294967296 - x.2) (q, r) inv1 (by simp) ?_
    rintro ⟨a, c⟩ inv
    simp only at inv
    have b1 := bm inv
    have b2 := bp hd1b inv
    have b3 := inv.rlt
    have b4 := inv.qle
    have fin : (4294967296 ≤ a ∨ 4294967296 * c + d1 < a * Y0) → ∃ a' c' : Nat, IntKind.u64.wrap ((a : Int) - 1) = (a' : Int) ∧ IntKind.u64.wrap ((c : Int) + (Y1 : Int)) = (c' : Int) ∧ c' = c + Y1 ∧ (4294967296 ≤ c' → a' = Q1) ∧ (c' < 4294967296 → DvI U d1 Y1 Y0 a' c') := fun hc => by
      obtain ⟨n1, n2, n3, n4⟩ := inv.next (by omega) (by rw [hYs]; exact hUY) hd1b hc
      refine ⟨a - 1, c + Y1, by rw [wrapU]; omega, by rw [wrapU]; omega, rfl, fun hc => (Dv.stop n2 n3 n4 (by omega) hY0b hc).trans hQ1.symm, fun hc => ⟨n2, n3, hc, by omega⟩⟩
    simp
    refine brB_of (fun c1 => ?_) (fun c1 => ?_) <;> simp [c1] <;> simp at c1
    · obtain ⟨a', c', k1, k2, k3, k4, k5⟩ := fin (.inl (by omega))
      simp [k1, k2]
      refine brB_of (fun c2 => ?_) (fun c2 => ?_) <;> simp [c2, k1, k2] <;> simp at c2
      · rw [k4 (by omega)]
      · exact ⟨_, _, k5 (by omega), by omega, rfl, rfl⟩
    · simp [b1, b2]
      refine brB_of (fun c3 => ?_) (fun c3 => ?_) <;> simp [c3] <;> simp at c3
      · obtain ⟨a', c', k1, k2, k3, k4, k5⟩ := fin (.inr (by omega))
        simp [k1, k2]
        refine brB_of (fun c2 => ?_) (fun c2 => ?_) <;> simp [c2, k1, k2] <;> simp at c2
        · rw [k4 (by omega)]
        · exact ⟨_, _, k5 (by omega), by omega, rfl, rfl⟩
      · rw [(inv.done (by omega) (by omega)).trans hQ1.symm]
  intro q1 e hq1 hw
  subst hq1
  simp at hw
  obtain ⟨g2, g8, g9, g10, g11, g13, g14, g15⟩ := hw
  obtain ⟨V, hV⟩ : ∃ V, V = (U * 4294967296 + d1) % (Y1 * 4294967296 + Y0) := ⟨_, rfl⟩
  have hVY : V < Y := by rw [hV, hYs]; exact Nat.mod_lt _ (by omega)
  have sum1 : q1 * Y + V = U * 4294967296 + d1 := by rw [hQ1, hV, hYs, Nat.mul_comm]; exact Nat.div_add_mod _ _
  have eV : IntKind.u64.wrap (IntKind.u64.wrap (IntKind.u64.wrap ((U : Int) * 4294967296) + (d1 : Int)) - IntKind.u64.wrap ((q1 : Int) * (Y : Int))) = (V : Int) := by
    rw [mulN q1 Y]
    simp only [wrapU]
    generalize q1 * Y = z at *
    omega
  have inv2 := DvI.first hY1a hY1b hY0b (u := V) (d := d0) (by omega) hd0b
  obtain ⟨q2, hq2⟩ : ∃ q, q = V / Y1 := ⟨_, rfl⟩
  obtain ⟨r2, hr2⟩ : ∃ r, r = V % Y1 := ⟨_, rfl⟩
  rw [← hq2, ← hr2] at inv2
  have eq3 : Int.tdiv (V : Int) (Y1 : Int) = (q2 : Int) := by rw [tdivN, hq2]
  have eq4 : IntKind.u64.wrap (q2 : Int) = (q2 : Int) := wrapN _ (by have := inv2.qle; omega)
  have er2 : IntKind.u64.wrap ((V : Int) - IntKind.u64.wrap ((q2 : Int) * (Y1 : Int))) = (r2 : Int) := sub1 _ _ _ _ inv2.sum (by omega)
  simp [g2, g8, g9, g10, g11, g13, g14, g15, eV, eq3, eq4, er2, nz]
  obtain ⟨Q0, hQ0⟩ : ∃ Q0, Q0 = (V * 4294967296 + d0) / (Y1 * 4294967296 + Y0) := ⟨_, rfl⟩
  refine loop_out 2 Nat (fun x => [(2, .int .u64 Y), (8, .int .u64 s), (14, .int .u64 d0), (15, .int .u64 q1), (17, .int .u64 V), (18, .int .u64 x)]) (fun x => x = Q0) ?_ ?_
  · refine loop_of (Nat × Nat) (fun x => [(2, .int .u64 Y), (8, .int .u64 s), (9, .int .u64 Y1), (10, .int .u64 Y0), (14, .int .u64 d0), (15, .int .u64 q1), (16, .int .u64 x.2), (17, .int .u64 V), (18, .int .u64 x.1)]) (fun x => DvI V d0 Y1 Y0 x.1 x.2) (fun x => 4294967296 - x.2) (q2, r2) inv2 (by simp) ?_
    rintro ⟨a, c⟩ inv
    simp only at inv
    have b1 := bm inv
    have b2 := bp hd0b inv
    have b3 := inv.rlt
    have b4 := inv.qle
    have fin : (4294967296 ≤ a ∨ 4294967296 * c + d0 < a * Y0) → ∃ a' c' : Nat, IntKind.u64.wrap ((a : Int) - 1) = (a' : Int) ∧ IntKind.u64.wrap ((c : Int) + (Y1 : Int)) = (c' : Int) ∧ c' = c + Y1 ∧ (4294967296 ≤ c' → a' = Q0) ∧ (c' < 4294967296 → DvI V d0 Y1 Y0 a' c') := fun hc => by
      obtain ⟨n1, n2, n3, n4⟩ := inv.next (by omega) (by rw [hYs]; exact hVY) hd0b hc
      refine ⟨a - 1, c + Y1, by rw [wrapU]; omega, by rw [wrapU]; omega, rfl, fun hc => (Dv.stop n2 n3 n4 (by omega) hY0b hc).trans hQ0.symm, fun hc => ⟨n2, n3, hc, by omega⟩⟩
    simp
    refine brB_of (fun c1 => ?_) (fun c1 => ?_) <;> simp [c1] <;> simp at c1
    · obtain ⟨a', c', k1, k2, k3, k4, k5⟩ := fin (.inl (by omega))
      simp [k1, k2]
      refine brB_of (fun c2 => ?_) (fun c2 => ?_) <;> simp [c2, k1, k2] <;> simp at c2
      · rw [k4 (by omega)]
      · exact ⟨_, _, k5 (by omega), by omega, rfl, rfl⟩
    · simp [b1, b2]
      refine brB_of (fun c3 => ?_) (fun c3 => ?_) <;> simp [c3] <;> simp at c3
      · obtain ⟨a', c', k1, k2, k3, k4, k5⟩ := fin (.inr (by omega))
        simp [k1, k2]
        refine brB_of (fun c2 => ?_) (fun c2 => ?_) <;> simp [c2, k1, k2] <;> simp at c2
        · rw [k4 (by omega)]
        · exact ⟨_, _, k5 (by omega), by omega, rfl, rfl⟩
      · rw [(inv.done (by omega) (by omega)).trans hQ0.symm]
  intro q0 e hq0 hw
  subst hq0
  simp at hw
  obtain ⟨g2, g8, g14, g15, g17, g18⟩ := hw
  have l1 : q1 < 4294967296 := by rw [hQ1]; exact Dv.lt (by omega) (by omega) hd1b
  have l0 : q0 < 4294967296 := by rw [hQ0]; exact Dv.lt (by omega) (by omega) hd0b
  obtain ⟨R, hR⟩ : ∃ R, R = (V * 4294967296 + d0) % (Y1 * 4294967296 + Y0) := ⟨_, rfl⟩
  have hRY : R < Y := by rw [hR, hYs]; exact Nat.mod_lt _ (by omega)
  have sum0 : q0 * Y + R = V * 4294967296 + d0 := by rw [hQ0, hR, hYs, Nat.mul_comm]; exact Nat.div_add_mod _ _
  have eR : IntKind.u64.wrap (IntKind.u64.wrap (IntKind.u64.wrap ((V : Int) * 4294967296) + (d0 : Int)) - IntKind.u64.wrap ((q0 : Int) * (Y : Int))) = (R : Int) := by
    rw [mulN q0 Y]
    simp only [wrapU]
    generalize q0 * Y = z at *
    omega
  obtain ⟨Z, hZ⟩ : ∃ Z, Z = R / 2 ^ s := ⟨_, rfl⟩
  have eZ : Int.fdiv (R : Int) (2 ^ s) = (Z : Int) := by rw [shrN, hZ]
  have eQ : IntKind.u64.wrap (IntKind.u64.wrap ((q1 : Int) * 4294967296) + (q0 : Int)) = ((q1 * 4294967296 + q0 : Nat) : Int) := by
    simp only [wrapU]
    omega
  obtain ⟨T, hT⟩ : ∃ T, T = q1 * 4294967296 + q0 := ⟨_, rfl⟩
  rw [← hT] at eQ
  simp [g2, g8, g14, g15, g17, g18, w1, m1, eR, eZ, eQ]
  have hW2 : lo * 2 ^ s = B * 18446744073709551616 + W := by
    have e1 : lo * 2 ^ s / 18446744073709551616 = B := by
      rw [hB, show (18446744073709551616 : Nat) = 2 ^ (64 - s) * 2 ^ s by rw [← Nat.pow_add, show 64 - s + s = 64 by omega], Nat.mul_div_mul_right _ _ (Nat.two_pow_pos s)]
    have e2 := Nat.div_add_mod (lo * 2 ^ s) 18446744073709551616
    omega
  have tot : (hi * 18446744073709551616 + lo) * 2 ^ s = (U * 4294967296 + d1) * 4294967296 + d0 := by
    rw [mul_shift, hW2, ← hH]
    exact tot_l hU hd1 hd0
  obtain ⟨f1, f2⟩ := dv_all (N := hi * 18446744073709551616 + lo) (y := y) (S := 2 ^ s) (A := U * 4294967296 + d1) (K := 4294967296) (un0 := d0) (y' := Y1 * 4294967296 + Y0) (by omega) (Nat.two_pow_pos s) (by rw [hYs, hY]) tot
  rw [← hV, ← hQ1, ← hQ0, ← hT] at f1
  rw [← hV, ← hR, ← hZ] at f2
  rw [← hres, f1, f2]
end Go.Gv

set_option linter.unusedSimpArgs false
namespace Go.Gv
def wideD (n : Nat) : D := .agg [.int .u64 ((n / 18446744073709551616 : Nat) : Int), .int .u64 ((n % 18446744073709551616 : Nat) : Int)]
def rootF (x : Nat) : Nat → Nat → Nat
  | 0, r => r
  | i + 1, r => rootF x i (if (r + 2 ^ i) * (r + 2 ^ i) ≤ x then r + 2 ^ i else r)
def rootN (x : Nat) : Nat := rootF x 63 0
variable {C : CC} (hC : Closed prog C)
include hC
end Go.Gv

set_option linter.unusedSimpArgs false
namespace Go.Gv
open Go.Lib
theorem shlN (a k m : Nat) (hm : m = a * 2 ^ k % 18446744073709551616) : IntKind.u64.wrap ((a : Int) * 2 ^ k) = (m : Int) := by
  have e : (a : Int) * 2 ^ k = ((a * 2 ^ k : Nat) : Int) := by push_cast; rfl
  rw [e, wrapM, hm]
theorem uw {n : Int} {m : Nat} (h : n = m ∨ n = m + 18446744073709551616 ∨ n = m - 18446744073709551616) (hm : m < 18446744073709551616) : IntKind.u64.wrap n = (m : Int) := by
  rw [wrapU]; omega
end Go.Gv

set_option linter.unusedSimpArgs false
namespace Go.Gv
open Go.Lib
theorem shl4 (a m : Nat) (hm : m = a * 16 % 18446744073709551616) : IntKind.u64.wrap ((a : Int) * 2 ^ min 4 IntKind.u64.bits) = (m : Int) := shlN a 4 m hm
theorem shl60 (a m : Nat) (hm : m = a * 1152921504606846976 % 18446744073709551616) : IntKind.u64.wrap ((a : Int) * 2 ^ min 60 IntKind.u64.bits) = (m : Int) := shlN a 60 m hm
theorem shr60 (a : Nat) : Int.fdiv (a : Int) (2 ^ min 60 IntKind.u64.bits) = ((a / 1152921504606846976 : Nat) : Int) := shrN a 60
theorem shr4 (a : Nat) : Int.fdiv (a : Int) (2 ^ min 4 IntKind.u64.bits) = ((a / 16 : Nat) : Int) := shrN a 4
theorem mask60 (a : Nat) (ha : a < 18446744073709551616) : bits .and .u64 (a : Int) 1152921504606846975 = ((a % 1152921504606846976 : Nat) : Int) := by
  have h := bits_and_u64_nat a 1152921504606846975 ha (by omega)
  have e : a &&& 1152921504606846975 = a % 1152921504606846976 := Nat.and_two_pow_sub_one_eq_mod a 60
  rw [e] at h
  exact h
theorem or16 (a b : Nat) (hb : b < 16) (h : a * 16 + b < 18446744073709551616) : bits .or .u64 ((a * 16 : Nat) : Int) (b : Int) = ((a * 16 + b : Nat) : Int) := orN a b 4 hb h
theorem or60 (a b : Nat) (hb : b < 1152921504606846976) (h : a * 1152921504606846976 + b < 18446744073709551616) : bits .or .u64 ((a * 1152921504606846976 : Nat) : Int) (b : Int) = ((a * 1152921504606846976 + b : Nat) : Int) := orN a b 60 hb h
def numD (p : Nat) (neg : Bool) : D := .agg [.int .u64 ((p / 18446744073709551616 : Nat) : Int), .int .u64 ((p % 18446744073709551616 : Nat) : Int), .bool neg]
def wiD (p : Nat) : D := .agg [.int .i64 ((p / 1152921504606846976 : Nat) : Int), .int .i64 ((p % 1152921504606846976 : Nat) : Int)]
variable {C : CC} (hC : Closed prog C)
include hC
theorem wsize_c (n : Nat) (h : n < 9223372036854775808) : C 112 [.int .i64 n] (.int .u64 (n : Int)) [] := by
  refine start hC (nf := N112_wide_size) rfl rfl ?_
  have h0 : ¬ (n : Int) < 0 := by omega
  simp [N112_wide_size, h0, wrapN n (by omega)]
theorem signed_c (a b : Int) (n : Bool) : C 113 [.int .u64 a, .int .u64 b, .bool n] (.agg [.int .u64 a, .int .u64 b, .bool (n && (!decide (a = 0) || !decide (b = 0)))]) [] := by
  refine start hC (nf := N113_wide_signed) rfl rfl ?_
  simp [N113_wide_signed]
  cases n <;> simp
  by_cases h : a = 0 <;> simp [h]
theorem wtimes_c (x y : Nat) (hx : x < 9223372036854775808) (hy : y < 9223372036854775808) : C 103 [.int .i64 x, .int .i64 y] (numD (x * y) false) [] := by
  refine start hC (nf := N103_wide_times) rfl rfl ?_
  have h0 : ¬ (x : Int) < 0 := by omega
  have h1 : ¬ (y : Int) < 0 := by omega
  have hm := Mul64_c hC x y (by omega) (by omega)
  rw [numD]
  obtain ⟨zh, hzh⟩ : ∃ zh, zh = x * y / 18446744073709551616 := ⟨_, rfl⟩
  obtain ⟨zl, hzl⟩ : ∃ zl, zl = x * y % 18446744073709551616 := ⟨_, rfl⟩
  rw [← hzh, ← hzl] at hm ⊢
  simp [N103_wide_times]
  refine callW_of (wsize_c hC x hx) (.inl rfl) ?_
  simp
  refine callW_of (wsize_c hC y hy) (.inl rfl) ?_
  simp
  refine callW_of hm (.inl rfl) ?_
  simp [h0, h1]
  refine callW_of (signed_c hC zh zl false) (.inl rfl) ?_
  simp
theorem whole_c (n : Nat) (h : n < 9223372036854775808) : C 110 [.int .u64 n, .bool false] (.tup [.int .i64 n, .int .i64 0]) [] := by
  refine start hC (nf := N110_wide_whole) rfl rfl ?_
  have h1 : (n : Int) ≤ 9223372036854775807 := by omega
  have h2 : IntKind.i64.wrap (n : Int) = (n : Int) := wrap_i64 rfl (by omega)
  simp [N110_wide_whole, h1, h2]
theorem quotient_c (p d : Nat) (up : Bool) (q : Nat) (hd : d < 9223372036854775808) (hp : p / 18446744073709551616 < d) (hq : q < 9223372036854775808) (hv : q = if up then (p + d - 1) / d else p / d) (hqd : p / d + 1 < 9223372036854775808) : C 104 [numD p false, .int .i64 d, .bool up] (.tup [.int .i64 q, .int .i64 0]) [] := by
  obtain ⟨ph, hph⟩ : ∃ z, z = p / 18446744073709551616 := ⟨_, rfl⟩
  obtain ⟨pl, hpl⟩ : ∃ z, z = p % 18446744073709551616 := ⟨_, rfl⟩
  have hpp : ph * 18446744073709551616 + pl = p := by omega
  obtain ⟨q0, hq0⟩ : ∃ z, z = p / d := ⟨_, rfl⟩
  obtain ⟨r0, hr0⟩ : ∃ z, z = p % d := ⟨_, rfl⟩
  have hdiv := Div64_c hC ph pl d (by omega) (by omega) (by omega)
  rw [hpp, ← hq0, ← hr0] at hdiv
  have hd0 : 0 < d := by omega
  have hdp : d * q0 + r0 = p := by rw [hq0, hr0]; exact Nat.div_add_mod p d
  have hrd : r0 < d := by rw [hr0]; exact Nat.mod_lt _ hd0
  have hup : up = true → q = if 0 < r0 then q0 + 1 else q0 := by
    rintro rfl
    simp only [if_true] at hv
    rw [hv, ← hdp]
    by_cases h : 0 < r0
    · rw [if_pos h, show d * q0 + r0 + d - 1 = d * q0 + (d + (r0 - 1)) by omega, Nat.mul_add_div hd0, Nat.add_div_left _ hd0, Nat.div_eq_of_lt (by omega)]
    · rw [if_neg h, show d * q0 + r0 + d - 1 = d * q0 + (d - 1) by omega, Nat.mul_add_div hd0, Nat.div_eq_of_lt (by omega)]
      rfl
  rw [numD, ← hph, ← hpl]
  have h1 : ¬ (d : Int) ≤ (ph : Int) := by omega
  have h2 : ¬ (d : Int) < 0 := by omega
  have h3 : IntKind.u64.wrap ((q0 : Int) + 1) = ((q0 + 1 : Nat) : Int) := uw (by omega) (by omega)
  refine start hC (nf := N104_wide_quotient) rfl rfl ?_
  simp [N104_wide_quotient]
  refine callW_of (wsize_c hC d hd) (.inl rfl) ?_
  simp [h1]
  refine callW_of hdiv (.inl rfl) ?_
  simp [h2]
  cases up
  · have e : q = q0 := by rw [hv, hq0]; rfl
    subst e
    refine brB_of (fun h => ?_) (fun h => ?_) <;> simp at h <;> simp [h]
    · refine callW_of (whole_c hC q hq) (.inl rfl) ?_
      simp
    · refine callW_of (whole_c hC q hq) (.inl rfl) ?_
      simp
  · have hv := hup rfl
    by_cases h : 0 < r0
    · have hi : (0 : Int) < r0 := by omega
      rw [if_pos h] at hv
      subst hv
      have h4 : ¬ ((q0 : Int) + 1 = 0) := by omega
      simp [hi, h3, h4, h]
      refine callW_of (whole_c hC (q0 + 1) hq) (.inl rfl) ?_
      simp
    · have hi : ¬ (0 : Int) < r0 := by omega
      rw [if_neg h] at hv
      subst hv
      simp [hi, h]
      refine callW_of (whole_c hC q hq) (.inl rfl) ?_
      simp
end Go.Gv

set_option linter.unusedSimpArgs false
namespace Go.Gv
open Go.Lib
variable {C : CC} (hC : Closed prog C)
include hC
theorem placed_c (p : Nat) (h : p < 1329227995784915872903807060280344576) : C 105 [numD p false] (.tup [wiD p, .int .i64 0]) [] := by
  obtain ⟨ph, hph⟩ : ∃ z, z = p / 1152921504606846976 := ⟨_, rfl⟩
  obtain ⟨pl, hpl⟩ : ∃ z, z = p % 1152921504606846976 := ⟨_, rfl⟩
  obtain ⟨zh, hzh⟩ : ∃ z, z = p / 18446744073709551616 := ⟨_, rfl⟩
  obtain ⟨zl, hzl⟩ : ∃ z, z = p % 18446744073709551616 := ⟨_, rfl⟩
  rw [wiD, numD, ← hph, ← hpl, ← hzh, ← hzl]
  obtain ⟨zt, hzt⟩ : ∃ z, z = zl / 1152921504606846976 := ⟨_, rfl⟩
  have h1 : ¬ (72057594037927936 : Int) < zh := by omega
  have h2 : ¬ (zh : Int) = 72057594037927936 := by omega
  have e1 := shl4 zh (zh * 16) (by omega)
  have e2 := shr60 zl
  rw [← hzt] at e2
  have e3 := or16 zh zt (by omega) (by omega)
  have e4 : IntKind.i64.wrap ((zh * 16 + zt : Nat) : Int) = (ph : Int) := wrap_i64 (by omega) (by omega)
  have e5 := mask60 zl (by omega)
  have e6 : IntKind.i64.wrap ((zl % 1152921504606846976 : Nat) : Int) = (pl : Int) := wrap_i64 (by omega) (by omega)
  refine start hC (nf := N105_wide_placed) rfl rfl ?_
  simp [N105_wide_placed, h1, h2, e2, -Int.natCast_mul, -Int.natCast_emod]
  refine ⟨indW_of (by decide +kernel), ?_⟩
  rw [e1, e3, e4, e5, e6]
  simp
theorem value_c (p : Nat) (h : p < 1329227995784915872903807060280344576) : C 108 [wiD p] (numD p false) [] := by
  obtain ⟨ph, hph⟩ : ∃ z, z = p / 1152921504606846976 := ⟨_, rfl⟩
  obtain ⟨pl, hpl⟩ : ∃ z, z = p % 1152921504606846976 := ⟨_, rfl⟩
  obtain ⟨zh, hzh⟩ : ∃ z, z = p / 18446744073709551616 := ⟨_, rfl⟩
  obtain ⟨zl, hzl⟩ : ∃ z, z = p % 18446744073709551616 := ⟨_, rfl⟩
  rw [wiD, numD, ← hph, ← hpl, ← hzh, ← hzl]
  have h1 : (0 : Int) ≤ ph := by omega
  obtain ⟨w, hw⟩ : ∃ z, z = ph % 16 := ⟨_, rfl⟩
  have e1 : Int.fdiv (ph : Int) (2 ^ min 4 IntKind.u64.bits) = (zh : Int) := by rw [shr4]; omega
  have e2 : IntKind.u64.wrap ((ph : Int) * 2 ^ min 60 IntKind.u64.bits) = ((w * 1152921504606846976 : Nat) : Int) := shl60 ph _ (by omega)
  have e3 : IntKind.u64.wrap (pl : Int) = (pl : Int) := wrapN pl (by omega)
  have e4 : bits .or .u64 ((w * 1152921504606846976 : Nat) : Int) (pl : Int) = (zl : Int) := by
    rw [or60 w pl (by omega) (by omega)]; omega
  refine start hC (nf := N108_wide_value) rfl rfl ?_
  simp [N108_wide_value]
  refine callW_of (wsize_c hC ph (by omega)) (.inl rfl) ?_
  simp [h1]
  rw [e1, e2, e3, e4]
  simp
end Go.Gv

set_option linter.unusedSimpArgs false
namespace Go.Gv
theorem numD_ex (p : Nat) : ∃ a b : Int, numD p false = .agg [.int .u64 a, .int .u64 b, .bool false] := ⟨_, _, rfl⟩
theorem wiD_ex (p : Nat) : ∃ a b : Int, wiD p = .agg [.int .i64 a, .int .i64 b] := ⟨_, _, rfl⟩
variable {C : CC} (hC : Closed prog C)
include hC
theorem Product_c (x y : Nat) (hx : x < 9223372036854775808) (hy : y < 9223372036854775808) (h : x * y < 1329227995784915872903807060280344576) : C 99 [.int .i64 x, .int .i64 y] (.tup [wiD (x * y), .int .i64 0]) [] := by
  have k1 := wtimes_c hC x y hx hy
  have k2 := placed_c hC (x * y) h
  obtain ⟨a, b, e1⟩ := numD_ex (x * y)
  obtain ⟨c, d, e2⟩ := wiD_ex (x * y)
  rw [e1] at k1 k2
  rw [e2] at k2 ⊢
  refine start hC (nf := N99_wide_Product) rfl rfl ?_
  simp [N99_wide_Product]
  refine callW_of k1 (.inl rfl) ?_
  simp
  refine callW_of k2 (.inr rfl) ?_
  simp
end Go.Gv

set_option linter.unusedSimpArgs false
namespace Go.Gv
def cmp3 (x y : Int) : Int := if x < y then -1 else if y < x then 1 else 0
variable {C : CC} (hC : Closed prog C)
include hC
theorem isNaN_c (x : Int) : C 299 [.int .i64 x] (.bool false) [] := by
  refine start hC (nf := N299_cmp_isNaN_int) rfl rfl ?_
  simp [N299_cmp_isNaN_int]
theorem compare_c (x y : Int) : C 267 [.int .i64 x, .int .i64 y] (.int .i64 (cmp3 x y)) [] := by
  have k1 := isNaN_c hC x
  have k2 := isNaN_c hC y
  refine start hC (nf := N267_cmp_Compare_int) rfl rfl ?_
  simp [N267_cmp_Compare_int]
  refine callW_of k1 (.inl rfl) ?_
  simp
  refine callW_of k2 (.inl rfl) ?_
  simp
  refine brB_of (fun c1 => ?_) (fun c1 => ?_) <;> simp at c1 <;> simp [c1]
  · rw [cmp3, if_pos c1]
  · refine brB_of (fun c2 => ?_) (fun c2 => ?_) <;> simp at c2 <;> simp [c2]
    · rw [cmp3, if_neg (by omega), if_pos c2]
    · rw [cmp3, if_neg (by omega), if_neg (by omega)]
end Go.Gv

set_option linter.unusedSimpArgs false
namespace Go.Gv
open Go.Lib
variable {C : CC} (hC : Closed prog C)
include hC
def nmD (x : Nat) : D := .agg [.int .u64 ((x / 18446744073709551616 : Nat) : Int), .int .u64 ((x % 18446744073709551616 : Nat) : Int), .bool false]
end Go.Gv

set_option linter.unusedSimpArgs false
namespace Go.Gv
open Go.Lib
def wiS (v : Int) : D := .agg [.int .i64 (v / 1152921504606846976), .int .i64 (v % 1152921504606846976)]
theorem wiS_nat (p : Nat) : wiS p = wiD p := by simp [wiS, wiD]
variable {C : CC} (hC : Closed prog C)
include hC
theorem wsizeN_c (n : Nat) (h0 : 0 < n) (h : n < 9223372036854775808) : C 112 [.int .i64 (-(n : Int))] (.int .u64 (n : Int)) [] := by
  have e1 : IntKind.u64.wrap (-(n : Int)) = ((18446744073709551616 - n : Nat) : Int) := uw (by omega) (by omega)
  have e2 : IntKind.u64.wrap (-((18446744073709551616 - n : Nat) : Int)) = (n : Int) := uw (by omega) (by omega)
  have h1 : (-(n : Int)) < 0 := by omega
  refine start hC (nf := N112_wide_size) rfl rfl ?_
  obtain ⟨z, hz⟩ : ∃ z, z = -(n : Int) := ⟨_, rfl⟩
  obtain ⟨y, hy⟩ : ∃ y, y = ((18446744073709551616 - n : Nat) : Int) := ⟨_, rfl⟩
  rw [← hz] at e1 h1 ⊢
  rw [← hy] at e1 e2
  simp [N112_wide_size, h1, e1, e2]
theorem placedN_c (p : Nat) (h0 : 0 < p) (h : p < 1329227995784915872903807060280344576) : C 105 [numD p true] (.tup [wiS (-(p : Int)), .int .i64 0]) [] := by
  obtain ⟨ph, hph⟩ : ∃ z, z = p / 1152921504606846976 := ⟨_, rfl⟩
  obtain ⟨pl, hpl⟩ : ∃ z, z = p % 1152921504606846976 := ⟨_, rfl⟩
  obtain ⟨zh, hzh⟩ : ∃ z, z = p / 18446744073709551616 := ⟨_, rfl⟩
  obtain ⟨zl, hzl⟩ : ∃ z, z = p % 18446744073709551616 := ⟨_, rfl⟩
  obtain ⟨qh, hqh⟩ : ∃ z, z = (-(p : Int)) / 1152921504606846976 := ⟨_, rfl⟩
  obtain ⟨ql, hql⟩ : ∃ z, z = (-(p : Int)) % 1152921504606846976 := ⟨_, rfl⟩
  rw [wiS, numD, ← hzh, ← hzl, ← hqh, ← hql]
  obtain ⟨zt, hzt⟩ : ∃ z, z = zl / 1152921504606846976 := ⟨_, rfl⟩
  have h1 : ¬ (72057594037927936 : Int) < zh := by omega
  have h2 : ¬ (zh : Int) = 72057594037927936 := by omega
  have e1 := shl4 zh (zh * 16) (by omega)
  have e2 := shr60 zl
  rw [← hzt] at e2
  have e3 := or16 zh zt (by omega) (by omega)
  have e4 : IntKind.i64.wrap ((zh * 16 + zt : Nat) : Int) = (ph : Int) := wrap_i64 (by omega) (by omega)
  have e5 := mask60 zl (by omega)
  have e6 : IntKind.i64.wrap ((zl % 1152921504606846976 : Nat) : Int) = (pl : Int) := wrap_i64 (by omega) (by omega)
  have e7 : IntKind.i64.wrap (-(ph : Int)) = -(ph : Int) := wrap_i64 rfl (by omega)
  have e8 : IntKind.i64.wrap (-(ph : Int) - 1) = -(ph : Int) - 1 := wrap_i64 rfl (by omega)
  have e9 : IntKind.i64.wrap (1152921504606846976 - (pl : Int)) = 1152921504606846976 - (pl : Int) := wrap_i64 rfl (by omega)
  refine start hC (nf := N105_wide_placed) rfl rfl ?_
  simp [N105_wide_placed, h1, h2, e2, -Int.natCast_mul, -Int.natCast_emod]
  refine ⟨indW_of (by decide +kernel), ?_⟩
  rw [e1, e3, e4, e5, e6]
  simp
  refine brB_of (fun c1 => ?_) (fun c1 => ?_) <;> simp at c1
  · simp [c1, e7]
    omega
  · simp [c1, e7, e8, e9]
    omega
theorem wvalidS_c (v : Int) (h : -1329227995784915872903807060280344576 ≤ v ∧ v < 1329227995784915872903807060280344576) : C 106 [wiS v] (.bool true) [] := by
  obtain ⟨ph, hph⟩ : ∃ z, z = v / 1152921504606846976 := ⟨_, rfl⟩
  obtain ⟨pl, hpl⟩ : ∃ z, z = v % 1152921504606846976 := ⟨_, rfl⟩
  rw [wiS, ← hph, ← hpl]
  have h1 : (-1152921504606846976 : Int) ≤ ph := by omega
  have h2 : ph < 1152921504606846976 := by omega
  have h3 : 0 ≤ pl := by omega
  have h4 : pl < 1152921504606846976 := by omega
  refine start hC (nf := N106_wide_Valid) rfl rfl ?_
  simp [N106_wide_Valid, h1, h2, h3, h4]
end Go.Gv

set_option linter.unusedSimpArgs false
namespace Go.Gv
open Go.Lib
variable {C : CC} (hC : Closed prog C)
include hC
end Go.Gv

set_option linter.unusedSimpArgs false
namespace Go.Gv
def DvS (x b i a q r : Nat) : Prop := i ≤ 128 ∧ r < b ∧ ∃ c, a = c * 2 ^ i ∧ c < 2 ^ (128 - i) ∧ (q * b + r) * 2 ^ (128 - i) + c = x
theorem DvS.step {x b i a q r : Nat} (h : DvS x b i a q r) (hi : i < 128) (hb : 0 < b) :
    a < 340282366920938463463374607431768211456 ∧ 2 * q ≤ x ∧
    ∀ w r' a', 2 * r + a / 170141183460469231731687303715884105728 = w * b + r' → r' < b → a' = 2 * a % 340282366920938463463374607431768211456 → DvS x b (i + 1) a' (2 * q + w) r' ∧ 2 * q + w ≤ x := by
  obtain ⟨_, hr, c, h1, h2, h3⟩ := h
  obtain ⟨m, hm⟩ : ∃ m, m + 1 = 128 - i := ⟨127 - i, by omega⟩
  have hm2 : m = 128 - (i + 1) := by omega
  rw [← hm, Nat.pow_succ] at h2 h3
  obtain ⟨V, hV⟩ : ∃ V, V = 2 ^ m := ⟨_, rfl⟩
  obtain ⟨W, hW⟩ : ∃ W, W = 2 ^ i := ⟨_, rfl⟩
  have hVW : V * W = 170141183460469231731687303715884105728 := by
    rw [hV, hW, ← Nat.pow_add, show m + i = 127 by omega]
  have hVp : 0 < V := by rw [hV]; exact Nat.two_pow_pos m
  rw [← hV] at h2 h3
  rw [← hW] at h1
  obtain ⟨t, ht⟩ : ∃ t, t = c / V := ⟨_, rfl⟩
  obtain ⟨d, hd⟩ : ∃ d, d = c % V := ⟨_, rfl⟩
  have hc : c = t * V + d := by rw [ht, hd, Nat.mul_comm]; exact (Nat.div_add_mod c V).symm
  have hdV : d < V := by rw [hd]; exact Nat.mod_lt _ hVp
  have ht1 : t ≤ 1 := by
    have : t < 2 := by rw [ht, Nat.div_lt_iff_lt_mul hVp]; omega
    omega
  have ha : a = t * 170141183460469231731687303715884105728 + d * W := by
    rw [h1, hc, Nat.add_mul, Nat.mul_assoc, hVW]
  have hdW : d * W < 170141183460469231731687303715884105728 := by
    have : (d + 1) * W ≤ V * W := Nat.mul_le_mul_right _ hdV
    rw [hVW, Nat.add_mul] at this
    have hWp : 0 < W := by rw [hW]; exact Nat.two_pow_pos i
    omega
  have hbit : a / 170141183460469231731687303715884105728 = t := by
    rw [ha]; generalize d * W = z at *; omega
  have fin : ∀ w r', 2 * r + t = w * b + r' → ((2 * q + w) * b + r') * V + d = x := fun w r' e => by
    have e1 : (2 * q + w) * b + r' = 2 * (q * b + r) + t := by
      rw [Nat.add_mul, Nat.mul_assoc]
      generalize q * b = z at *
      generalize w * b = z' at *
      omega
    rw [e1, ← h3, hc, Nat.add_mul, Nat.mul_comm V 2, ← Nat.mul_assoc, Nat.mul_comm (q * b + r) 2]
    omega
  have big : ∀ w r', 2 * r + t = w * b + r' → 2 * q + w ≤ x := fun w r' e => by
    have e1 := fin w r' e
    have e2 : 2 * q + w ≤ (2 * q + w) * b := Nat.le_mul_of_pos_right _ hb
    have e3 : (2 * q + w) * b + r' ≤ ((2 * q + w) * b + r') * V := Nat.le_mul_of_pos_right _ hVp
    omega
  refine ⟨?_, ?_, ?_⟩
  · rw [ha]; generalize d * W = z at *; omega
  · exact Nat.le_trans (Nat.le_add_right _ _) (big _ _ (Nat.div_add_mod' (2 * r + t) b).symm)
  · intro w r' a' e hr' ha'
    rw [hbit] at e
    refine ⟨⟨by omega, hr', d, ?_, ?_, ?_⟩, big w r' e⟩
    · rw [ha', ha, Nat.pow_succ, ← hW, Nat.mul_comm W 2, Nat.mul_left_comm]
      generalize d * W = z at *
      omega
    · rw [← hm2, ← hV]; exact hdV
    · rw [← hm2, ← hV]; exact fin w r' e
theorem DvS.last {x b a q r : Nat} (h : DvS x b 128 a q r) : q = x / b ∧ r = x % b := by
  obtain ⟨_, hr, c, h1, h2, h3⟩ := h
  simp at h2 h3
  subst h2
  simp at h3
  subst h3
  have hb : 0 < b := by omega
  rw [Nat.mul_comm, Nat.mul_add_div hb, Nat.div_eq_of_lt hr, Nat.mul_add_mod, Nat.mod_eq_of_lt hr]
  exact ⟨rfl, rfl⟩
variable {C : CC} (hC : Closed prog C)
include hC
end Go.Gv

set_option linter.unusedSimpArgs false
namespace Go.Gv
variable {C : CC} (hC : Closed prog C)
include hC
end Go.Gv

set_option linter.unusedSimpArgs false
namespace Go.Gv
open Go.Lib
def numS (v : Int) : D := numD v.natAbs (decide (v < 0))
theorem numS_at {v : Int} {p : Nat} {b : Bool} (h1 : v.natAbs = p) (h2 : decide (v < 0) = b) : numS v = numD p b := by rw [numS, h1, h2]
theorem numD_wide (p : Nat) (b : Bool) : ∃ x y : Nat, x = p / 18446744073709551616 ∧ y = p % 18446744073709551616 ∧ numD p b = .agg [.int .u64 x, .int .u64 y, .bool b] := ⟨_, _, rfl, rfl, rfl⟩
theorem iw {n m : Int} (h : n = m ∨ n = m + 18446744073709551616) (h2 : -9223372036854775808 ≤ m ∧ m < 9223372036854775808) : IntKind.i64.wrap n = m := by
  have e1 : IntKind.i64.signed = true := rfl
  have e2 : (2 ^ (IntKind.i64.bits - 1) : Int) = 9223372036854775808 := rfl
  have e3 : (2 ^ IntKind.i64.bits : Int) = 18446744073709551616 := rfl
  unfold IntKind.wrap
  simp only [e1, e2, e3, Bool.true_and, decide_eq_true_eq]
  split <;> omega
variable {C : CC} (hC : Closed prog C)
include hC
end Go.Gv

set_option linter.unusedSimpArgs false
namespace Go.Gv
open Go.Lib
theorem neg_div_nat (n b : Nat) (hb : 0 < b) : (-(n : Int)) / (b : Int) = -((if n % b = 0 then n / b else n / b + 1 : Nat) : Int) := by
  have h1 := Nat.div_add_mod n b
  have h2 := Nat.mod_lt n hb
  obtain ⟨q, hq⟩ : ∃ q, q = n / b := ⟨_, rfl⟩
  obtain ⟨r, hr⟩ : ∃ r, r = n % b := ⟨_, rfl⟩
  rw [← hq, ← hr] at h1
  rw [← hr] at h2
  rw [← hq, ← hr]
  clear hq hr
  subst h1
  split
  · rename_i h
    subst h
    rw [Nat.add_zero, Int.natCast_mul, ← Int.mul_neg]
    exact Int.mul_ediv_cancel_left _ (by omega)
  · rename_i h
    have e : -((b * q + r : Nat) : Int) = ((b : Int) - r) + b * (-((q + 1 : Nat) : Int)) := by
      rw [Int.natCast_add, Int.natCast_mul, Int.natCast_add, Int.mul_neg, Int.mul_add]
      omega
    rw [e, Int.add_mul_ediv_left _ _ (by omega), Int.ediv_eq_zero_of_lt (by omega) (by omega)]
    omega
variable {C : CC} (hC : Closed prog C)
include hC
end Go.Gv

set_option linter.unusedSimpArgs false
namespace Go.Gv
variable {C : CC} (hC : Closed prog C)
include hC
theorem wtimesN_c (x y : Nat) (hx0 : 0 < x) (hx : x < 9223372036854775808) (hy : y < 9223372036854775808) : C 103 [.int .i64 (-(x : Int)), .int .i64 y] (numD (x * y) (decide (x * y ≠ 0))) [] := by
  have h0 : (-(x : Int)) < 0 := by omega
  have h1 : ¬ (y : Int) < 0 := by omega
  have hm := Mul64_c hC x y (by omega) (by omega)
  have k1 := wsizeN_c hC x hx0 hx
  have k2 := wsize_c hC y hy
  rw [numD]
  obtain ⟨Z, hZ⟩ : ∃ Z, Z = x * y := ⟨_, rfl⟩
  rw [← hZ] at hm ⊢
  obtain ⟨zh, hzh⟩ : ∃ zh, zh = Z / 18446744073709551616 := ⟨_, rfl⟩
  obtain ⟨zl, hzl⟩ : ∃ zl, zl = Z % 18446744073709551616 := ⟨_, rfl⟩
  have k3 := signed_c hC zh zl true
  rw [show (true && (!decide ((zh : Int) = 0) || !decide ((zl : Int) = 0))) = decide (Z ≠ 0) by
    rw [Bool.eq_iff_iff]; simp; omega] at k3
  rw [← hzh, ← hzl] at hm ⊢
  obtain ⟨z, hz⟩ : ∃ z, z = -(x : Int) := ⟨_, rfl⟩
  rw [← hz] at k1 h0 ⊢
  obtain ⟨b, hb⟩ : ∃ b, b = decide (Z ≠ 0) := ⟨_, rfl⟩
  rw [← hb] at k3 ⊢
  refine start hC (nf := N103_wide_times) rfl rfl ?_
  simp [N103_wide_times]
  refine callW_of k1 (.inl rfl) ?_
  simp
  refine callW_of k2 (.inl rfl) ?_
  simp
  refine callW_of hm (.inl rfl) ?_
  simp [h0, h1]
  refine callW_of k3 (.inl rfl) ?_
  simp
theorem ProductS_c (x : Int) (y : Nat) (hx : -9223372036854775808 < x ∧ x < 9223372036854775808) (hy : y < 9223372036854775808) (h : x.natAbs * y < 1329227995784915872903807060280344576) : C 99 [.int .i64 x, .int .i64 y] (.tup [wiS (x * y), .int .i64 0]) [] := by
  by_cases h0 : x < 0
  · obtain ⟨n, rfl⟩ : ∃ n : Nat, x = -(n : Int) := ⟨x.natAbs, by omega⟩
    rw [Int.natAbs_neg, Int.natAbs_natCast] at h
    have k1 := wtimesN_c hC n y (by omega) (by omega) hy
    have e : -(n : Int) * (y : Int) = -((n * y : Nat) : Int) := by rw [Int.neg_mul, Int.natCast_mul]
    rw [e]
    obtain ⟨Z, hZ⟩ : ∃ Z, Z = n * y := ⟨_, rfl⟩
    rw [← hZ] at k1 h ⊢
    have k2 : C 105 [numD Z (decide (Z ≠ 0))] (.tup [wiS (-(Z : Int)), .int .i64 0]) [] := by
      by_cases z0 : Z = 0
      · subst z0
        have := placed_c hC 0 (by omega)
        rw [← wiS_nat] at this
        simpa using this
      · rw [decide_eq_true z0]
        exact placedN_c hC Z (by omega) h
    obtain ⟨c1, c2, e3⟩ : ∃ a b : Int, wiS (-(Z : Int)) = .agg [.int .i64 a, .int .i64 b] := ⟨_, _, rfl⟩
    obtain ⟨i1, i2, i3, e7⟩ : ∃ a b c, numD Z (decide (Z ≠ 0)) = .agg [.int .u64 a, .int .u64 b, .bool c] := ⟨_, _, _, rfl⟩
    rw [e7] at k1 k2
    rw [e3] at k2 ⊢
    obtain ⟨z, hz⟩ : ∃ z, z = -(n : Int) := ⟨_, rfl⟩
    rw [← hz] at k1 ⊢
    refine start hC (nf := N99_wide_Product) rfl rfl ?_
    simp [N99_wide_Product]
    refine callW_of k1 (.inl rfl) ?_
    simp
    refine callW_of k2 (.inr rfl) ?_
    simp
  · obtain ⟨n, rfl⟩ : ∃ n : Nat, x = (n : Int) := ⟨x.natAbs, by omega⟩
    rw [Int.natAbs_natCast] at h
    have k := Product_c hC n y (by omega) hy h
    rw [← wiS_nat] at k
    simpa using k
end Go.Gv

set_option linter.unusedSimpArgs false
namespace Go.Gv
open Go.Lib
theorem wiS_parts (v : Int) : ∃ h l : Int, h = v / 1152921504606846976 ∧ l = v % 1152921504606846976 ∧ wiS v = .agg [.int .i64 h, .int .i64 l] := ⟨_, _, rfl, rfl, rfl⟩
variable {C : CC} (hC : Closed prog C)
include hC
theorem placedS_c (v : Int) (h : -1329227995784915872903807060280344576 < v ∧ v < 1329227995784915872903807060280344576) : C 105 [numS v] (.tup [wiS v, .int .i64 0]) [] := by
  by_cases v0 : v < 0
  · have k := placedN_c hC v.natAbs (by omega) (by omega)
    rw [show -((v.natAbs : Nat) : Int) = v by omega] at k
    rw [numS, decide_eq_true v0]
    exact k
  · have k := placed_c hC v.natAbs (by omega)
    rw [← wiS_nat, show ((v.natAbs : Nat) : Int) = v by omega] at k
    rw [numS, decide_eq_false v0]
    exact k
set_option maxHeartbeats 2000000 in
theorem valueS_c (v : Int) (h : -1329227995784915872903807060280344576 ≤ v ∧ v < 1329227995784915872903807060280344576) : C 108 [wiS v] (numS v) [] := by
  by_cases v0 : v < 0
  · obtain ⟨ph, pl, hph, hpl, e0⟩ := wiS_parts v
    obtain ⟨n, hn⟩ : ∃ n : Nat, n = ph.natAbs := ⟨_, rfl⟩
    obtain ⟨l, hl⟩ : ∃ l : Nat, l = pl.natAbs := ⟨_, rfl⟩
    obtain ⟨p, hp⟩ : ∃ p, p = v.natAbs := ⟨_, rfl⟩
    obtain ⟨zh, zl, hzh, hzl, e1⟩ := numD_wide p true
    have epl : pl = (l : Int) := by omega
    have eph : ph = -(n : Int) := by omega
    have k1 := wsizeN_c hC n (by omega) (by omega)
    rw [numS_at hp.symm (decide_eq_true v0), e0, e1, epl, eph]
    have h1 : ¬ (0 : Int) ≤ -(n : Int) := by omega
    obtain ⟨w, hw⟩ : ∃ z, z = n % 16 := ⟨_, rfl⟩
    obtain ⟨t, ht⟩ : ∃ z, z = n / 16 := ⟨_, rfl⟩
    have s1 : Int.fdiv (n : Int) (2 ^ min 4 IntKind.u64.bits) = (t : Int) := by rw [shr4, ht]
    have s2 : IntKind.u64.wrap ((n : Int) * 2 ^ min 60 IntKind.u64.bits) = ((w * 1152921504606846976 : Nat) : Int) := shl60 n _ (by omega)
    have s3 : IntKind.u64.wrap (l : Int) = (l : Int) := wrapN l (by omega)
    have c1 : (l : Int) < 18446744073709551616 := by omega
    have c2 : ((w * 1152921504606846976 : Nat) : Int) < 18446744073709551616 := by omega
    have s4 : (((w * 1152921504606846976 : Nat) : Int) - (l : Int)) % 18446744073709551616 = (zl : Int) := by omega
    have s5 : IntKind.u64.wrap ((t : Int) - (if w * 1152921504606846976 < l then 1 else 0)) = (zh : Int) := by
      split <;> exact uw (by omega) (by omega)
    obtain ⟨W, hW⟩ : ∃ W, W = w * 1152921504606846976 := ⟨_, rfl⟩
    rw [← hW] at s2 s4 s5 c2
    obtain ⟨z, hz⟩ : ∃ z, z = -(n : Int) := ⟨_, rfl⟩
    rw [← hz] at k1 h1 ⊢
    have c3 : (0 : Int) ≤ W := by omega
    have c4 : (0 : Int) ≤ l := by omega
    refine start hC (nf := N108_wide_value) rfl rfl ?_
    simp [N108_wide_value]
    refine callW_of k1 (.inl rfl) ?_
    simp [h1]
    rw [s1, s2, s3]
    simp [c1, c2, s4, s5]
  · have k := value_c hC v.natAbs (by omega)
    rw [← wiS_nat, show ((v.natAbs : Nat) : Int) = v by omega] at k
    rw [numS, decide_eq_false v0]
    exact k
set_option maxRecDepth 20000 in
set_option maxHeartbeats 4000000 in
theorem sumS_c (x y : Int) (hx : x.natAbs < 170141183460469231731687303715884105728) (hy : y.natAbs < 170141183460469231731687303715884105728) : C 107 [numS x, numS y] (numS (x + y)) [] := by
  obtain ⟨p, hp⟩ : ∃ p, p = x.natAbs := ⟨_, rfl⟩
  obtain ⟨r, hr⟩ : ∃ r, r = y.natAbs := ⟨_, rfl⟩
  obtain ⟨s, hs⟩ : ∃ s, s = decide (x < 0) := ⟨_, rfl⟩
  obtain ⟨t, ht⟩ : ∃ t, t = decide (y < 0) := ⟨_, rfl⟩
  rw [numS_at hp.symm hs.symm, numS_at hr.symm ht.symm]
  obtain ⟨ph, pl, hph, hpl, ep⟩ := numD_wide p s
  obtain ⟨rh, rl, hrh, hrl, er⟩ := numD_wide r t
  rw [ep, er]
  have k0 : (0 : Int) ≤ pl := by omega
  have k1 : (0 : Int) ≤ rl := by omega
  have k3 : (pl : Int) < 18446744073709551616 := by omega
  have k4 : (rl : Int) < 18446744073709551616 := by omega
  by_cases c : s = t
  · have e : numS (x + y) = numD (p + r) (s && !decide (p + r = 0)) := numS_at (by
      subst c
      rw [hs, decide_eq_decide] at ht
      omega) (by
      subst c
      rw [hs] at ht ⊢
      rw [decide_eq_decide] at ht
      rw [Bool.eq_iff_iff]
      simp
      omega)
    obtain ⟨dh, dl, hdh, hdl, ed⟩ := numD_wide (p + r) (s && !decide (p + r = 0))
    rw [e, ed]
    have kk := signed_c hC dh dl s
    rw [show (s && (!decide ((dh : Int) = 0) || !decide ((dl : Int) = 0))) = (s && !decide (p + r = 0)) by
      congr 1; rw [Bool.eq_iff_iff]; simp; omega] at kk
    obtain ⟨w, hw⟩ : ∃ w, w = (s && !decide (p + r = 0)) := ⟨_, rfl⟩
    rw [← hw] at kk ⊢
    subst c
    clear hs ht hw e ed
    have e1 : ((pl : Int) + rl) % 18446744073709551616 = (dl : Int) := by omega
    have e2 : IntKind.u64.wrap ((ph : Int) + rh) = (ph : Int) + rh := uw (m := ph + rh) (by omega) (by omega)
    have e3 : IntKind.u64.wrap ((ph : Int) + rh + ((pl : Int) + rl) / 18446744073709551616) = (dh : Int) := uw (by omega) (by omega)
    obtain ⟨g, hg⟩ : ∃ g, g = ((pl : Int) + rl) / 18446744073709551616 := ⟨_, rfl⟩
    rw [← hg] at e3
    refine start hC (nf := N107_wide_sum) rfl rfl ?_
    simp [N107_wide_sum, k0, k1, k3, k4, e1, e2, e3, ← hg]
    refine callW_of kk (.inl rfl) ?_
    simp
  · have c3 : (s == t) = false := by simpa using c
    rw [hs, ht, decide_eq_decide] at c
    by_cases l : p < r
    · have e : numS (x + y) = numD (r - p) (t && !decide (r - p = 0)) := numS_at (by
        omega) (by
        rw [Bool.eq_iff_iff, ht]
        simp
        omega)
      obtain ⟨dh, dl, hdh, hdl, ed⟩ := numD_wide (r - p) (t && !decide (r - p = 0))
      rw [e, ed]
      have kk := signed_c hC dh dl t
      rw [show (t && (!decide ((dh : Int) = 0) || !decide ((dl : Int) = 0))) = (t && !decide (r - p = 0)) by
        congr 1; rw [Bool.eq_iff_iff]; simp; omega] at kk
      obtain ⟨w, hw⟩ : ∃ w, w = (t && !decide (r - p = 0)) := ⟨_, rfl⟩
      rw [← hw] at kk ⊢
      have e1 : ((rl : Int) - pl) % 18446744073709551616 = (dl : Int) := by omega
      have e2 : IntKind.u64.wrap ((rh : Int) - ph) = ((rh - ph : Nat) : Int) := uw (by omega) (by omega)
      have e3 : IntKind.u64.wrap (((rh - ph : Nat) : Int) - (if rl < pl then 1 else 0)) = (dh : Int) := by
        split <;> exact uw (by omega) (by omega)
      have c5 : ph < rh ∨ (ph = rh ∧ pl < rl) := by omega
      clear hs ht hw e ed c
      refine start hC (nf := N107_wide_sum) rfl rfl ?_
      simp [N107_wide_sum, c3]
      rcases c5 with c5 | ⟨c5, c6⟩
      · simp [c5, k3, k4, e1, e2]
        rw [e3]
        refine callW_of kk (.inl rfl) ?_
        simp
      · have c7 : ¬ rl < pl := by omega
        have hd : dh = 0 := by omega
        have hz : IntKind.u64.wrap 0 = 0 := wrapN 0 (by omega)
        subst hd
        clear hph hpl hrh hrl hdh hdl k0 k1
        subst c5
        refine brB_of (fun c4 => ?_) (fun c4 => ?_) <;> simp at c4
        simp
        refine brB_of (fun c4 => ?_) (fun c4 => ?_) <;> simp at c4
        · simp [c4, c7, k3, k4, e1, hz]
          refine callW_of kk (.inl rfl) ?_
          simp
        · omega
    · have e : numS (x + y) = numD (p - r) (s && !decide (p - r = 0)) := numS_at (by
        omega) (by
        rw [Bool.eq_iff_iff, hs]
        simp
        omega)
      obtain ⟨dh, dl, hdh, hdl, ed⟩ := numD_wide (p - r) (s && !decide (p - r = 0))
      rw [e, ed]
      have kk := signed_c hC dh dl s
      rw [show (s && (!decide ((dh : Int) = 0) || !decide ((dl : Int) = 0))) = (s && !decide (p - r = 0)) by
        congr 1; rw [Bool.eq_iff_iff]; simp; omega] at kk
      obtain ⟨w, hw⟩ : ∃ w, w = (s && !decide (p - r = 0)) := ⟨_, rfl⟩
      rw [← hw] at kk ⊢
      have e1 : ((pl : Int) - rl) % 18446744073709551616 = (dl : Int) := by omega
      have e2 : IntKind.u64.wrap ((ph : Int) - rh) = ((ph - rh : Nat) : Int) := uw (by omega) (by omega)
      have e3 : IntKind.u64.wrap (((ph - rh : Nat) : Int) - (if pl < rl then 1 else 0)) = (dh : Int) := by
        split <;> exact uw (by omega) (by omega)
      have c5 : ¬ ph < rh := by omega
      have c6 : ph = rh → ¬ pl < rl := by omega
      clear hs ht hw e ed c
      refine start hC (nf := N107_wide_sum) rfl rfl ?_
      simp [N107_wide_sum, c3]
      simp [c5]
      refine brB_of (fun c7 => ?_) (fun c7 => ?_) <;> simp at c7 <;> simp [c7]
      · have c8 : ¬ pl < rl := c6 (by omega)
        have hd : dh = 0 := by omega
        have hz : IntKind.u64.wrap 0 = 0 := wrapN 0 (by omega)
        subst hd
        refine brB_of (fun c4 => ?_) (fun c4 => ?_) <;> simp at c4 <;> simp [c4]
        · omega
        simp [c8, k3, k4, e1, hz]
        refine callW_of kk (.inl rfl) ?_
        simp
      · simp [k3, k4, e1, e2]
        rw [e3]
        refine callW_of kk (.inl rfl) ?_
        simp
theorem AddS_c (x y : Int) (hx : -664613997892457936451903530140172288 ≤ x ∧ x ≤ 664613997892457936451903530140172287) (hy : -664613997892457936451903530140172288 < y ∧ y ≤ 664613997892457936451903530140172287) : C 327 [wiS x, wiS y] (.tup [wiS (x + y), .int .i64 0]) [] := by
  have k1 := wvalidS_c hC x (by omega)
  have k2 := wvalidS_c hC y (by omega)
  have k3 := valueS_c hC x (by omega)
  have k4 := valueS_c hC y (by omega)
  have k5 := sumS_c hC x y (by omega) (by omega)
  have k6 := placedS_c hC (x + y) (by omega)
  obtain ⟨a1, a2, _, _, ea⟩ := wiS_parts x
  obtain ⟨b1, b2, _, _, eb⟩ := wiS_parts y
  obtain ⟨c1, c2, _, _, ec⟩ := wiS_parts (x + y)
  obtain ⟨f1, f2, f3, ef⟩ : ∃ (a1 a2 : Nat) (a3 : Bool), numS x = .agg [.int .u64 a1, .int .u64 a2, .bool a3] := ⟨_, _, _, rfl⟩
  obtain ⟨g1, g2, g3, eg⟩ : ∃ (a1 a2 : Nat) (a3 : Bool), numS y = .agg [.int .u64 a1, .int .u64 a2, .bool a3] := ⟨_, _, _, rfl⟩
  obtain ⟨h1, h2, h3, eh⟩ : ∃ (a1 a2 : Nat) (a3 : Bool), numS (x + y) = .agg [.int .u64 a1, .int .u64 a2, .bool a3] := ⟨_, _, _, rfl⟩
  rw [ea] at k1 k3 ⊢
  rw [eb] at k2 k4 ⊢
  rw [ef] at k3 k5
  rw [eg] at k4 k5
  rw [eh] at k5 k6
  rw [ec] at k6 ⊢
  clear ea eb ec ef eg eh
  refine start hC (nf := N327_wide_Add) rfl rfl ?_
  simp [N327_wide_Add]
  refine callW_of k1 (.inl rfl) ?_
  simp
  refine callW_of k2 (.inl rfl) ?_
  simp
  refine callW_of k3 (.inl rfl) ?_
  simp
  refine callW_of k4 (.inl rfl) ?_
  simp
  refine callW_of k5 (.inl rfl) ?_
  simp
  refine callW_of k6 (.inr rfl) ?_
  simp
  exact indW_of (by decide +kernel)
theorem wholeS_c (n : Nat) (h : n < 9223372036854775808) (b : Bool) : C 110 [.int .u64 n, .bool b] (.tup [.int .i64 (if b then -(n : Int) else n), .int .i64 0]) [] := by
  cases b
  · exact whole_c hC n h
  · by_cases h0 : n = 0
    · subst h0
      refine start hC (nf := N110_wide_whole) rfl rfl ?_
      have hz : IntKind.u64.wrap 0 = 0 := by decide
      have hz2 : IntKind.i64.wrap 0 = 0 := by decide
      simp [N110_wide_whole, hz, hz2]
    · have h1 : (n : Int) ≤ 9223372036854775808 := by omega
      have h2 : IntKind.u64.wrap (-(n : Int)) = ((18446744073709551616 - n : Nat) : Int) := uw (by omega) (by omega)
      have h3 : IntKind.i64.wrap ((18446744073709551616 - n : Nat) : Int) = -(n : Int) := iw (by omega) (by omega)
      obtain ⟨y, hy⟩ : ∃ y, y = ((18446744073709551616 - n : Nat) : Int) := ⟨_, rfl⟩
      rw [← hy] at h2 h3
      refine start hC (nf := N110_wide_whole) rfl rfl ?_
      simp [N110_wide_whole, h1, h2, h3]
theorem quotientN_c (p d : Nat) (up : Bool) (q : Nat) (hp0 : 0 < p) (hd : d < 9223372036854775808) (hp : p / 18446744073709551616 < d) (hq : q < 9223372036854775808) (hv : q = if up then p / d else if p % d = 0 then p / d else p / d + 1) (hqd : p / d + 1 < 9223372036854775808) : C 104 [numD p true, .int .i64 d, .bool up] (.tup [.int .i64 (-(q : Int)), .int .i64 0]) [] := by
  obtain ⟨ph, hph⟩ : ∃ z, z = p / 18446744073709551616 := ⟨_, rfl⟩
  obtain ⟨pl, hpl⟩ : ∃ z, z = p % 18446744073709551616 := ⟨_, rfl⟩
  have hpp : ph * 18446744073709551616 + pl = p := by omega
  obtain ⟨q0, hq0⟩ : ∃ z, z = p / d := ⟨_, rfl⟩
  obtain ⟨r0, hr0⟩ : ∃ z, z = p % d := ⟨_, rfl⟩
  have hdiv := Div64_c hC ph pl d (by omega) (by omega) (by omega)
  rw [hpp, ← hq0, ← hr0] at hdiv
  rw [← hq0, ← hr0] at hv
  rw [numD, ← hph, ← hpl]
  have h1 : ¬ (d : Int) ≤ (ph : Int) := by omega
  have h2 : ¬ (d : Int) < 0 := by omega
  have h3 : IntKind.u64.wrap ((q0 : Int) + 1) = ((q0 + 1 : Nat) : Int) := uw (by omega) (by omega)
  have kw := wholeS_c hC q hq (decide (0 < q))
  have kq : (if decide (0 < q) = true then -(q : Int) else (q : Int)) = -(q : Int) := by
    by_cases h : 0 < q
    · simp [h]
    · have : q = 0 := by omega
      subst this
      simp
  rw [kq] at kw
  obtain ⟨Q, hQ⟩ : ∃ Q, Q = -(q : Int) := ⟨_, rfl⟩
  rw [← hQ] at kw ⊢
  refine start hC (nf := N104_wide_quotient) rfl rfl ?_
  simp [N104_wide_quotient]
  refine callW_of (wsize_c hC d hd) (.inl rfl) ?_
  simp [h1]
  refine callW_of hdiv (.inl rfl) ?_
  simp [h2]
  cases up
  · by_cases h : 0 < r0
    · have hi : (0 : Int) < r0 := by omega
      have e : q = q0 + 1 := by rw [hv]; simp; omega
      subst e
      have h4 : ¬ ((q0 : Int) + 1 = 0) := by omega
      simp [hi, h3, h4, h]
      simp at kw
      refine callW_of kw (.inl rfl) ?_
      simp
    · have hi : ¬ (0 : Int) < r0 := by omega
      have e : q = q0 := by rw [hv]; simp; omega
      subst e
      simp [hi, h]
      refine callW_of kw (.inl rfl) ?_
      simp
  · have e : q = q0 := by rw [hv]; simp
    subst e
    by_cases h : 0 < r0
    · have hi : (0 : Int) < r0 := by omega
      simp [hi, h]
      refine callW_of kw (.inl rfl) ?_
      simp
    · have hi : ¬ (0 : Int) < r0 := by omega
      simp [hi, h]
      refine callW_of kw (.inl rfl) ?_
      simp
end Go.Gv

set_option linter.unusedSimpArgs false
namespace Go.Gv
theorem w64_1 : IntKind.wrap .i64 1 = 1 := by decide
theorem w64_2 : IntKind.wrap .i64 2 = 2 := by decide
theorem w64_3 : IntKind.wrap .i64 3 = 3 := by decide
variable {C : CC} (hC : Closed prog C)
include hC
set_option maxHeartbeats 1000000 in
theorem sep_c {t u : Tri} (ht : okT t = true) (hu : okT u = true) : C 311 [.agg (triD t), .agg (triD u)] (.bool (sepT t u)) [] := by
  simp only [okT, Bool.and_eq_true] at ht hu
  obtain ⟨⟨t1, t2⟩, t3⟩ := ht
  obtain ⟨⟨u1, u2⟩, u3⟩ := hu
  have kk := fun (p q r : Pnt) (hp : okP p = true) (hq : okP q = true) (hr : okP r = true) => mturn_c hC hp hq hr
  simp only [ptD] at kk
  have E : sepT t u = (sep1 t.1 t.2.1 u || sep1 t.2.1 t.2.2 u || sep1 t.2.2 t.1 u) := rfl
  rw [E]
  clear E
  have S : ∀ p q, sep1 p q u = (decide (turnP p q u.1 ≤ 0) && decide (turnP p q u.2.1 ≤ 0) && decide (turnP p q u.2.2 ≤ 0)) := fun p q => rfl
  refine start hC (nf := N311_mesh_separates) rfl rfl ?_
  rw [triD, triD]
  simp [N311_mesh_separates]
  refine loop_of Nat (fun i => [(2, .ptr (triD t)), (3, .ptr (triD u)), (8, .int .i64 i)]) (fun i => i ≤ 3 ∧ (1 ≤ i → sep1 t.1 t.2.1 u = false) ∧ (2 ≤ i → sep1 t.2.1 t.2.2 u = false) ∧ (3 ≤ i → sep1 t.2.2 t.1 u = false)) (fun i => 3 - i) 0 (by simp) (by simp [triD]) ?_
  rintro i ⟨hi, s1, s2, s3⟩
  rcases (by omega : i = 0 ∨ i = 1 ∨ i = 2 ∨ i = 3) with rfl | rfl | rfl | rfl
  · simp [triD, w64_1, w64_2, w64_3]
    refine ⟨indW_of (by decide +kernel), ?_⟩
    refine callW_of (kk t.1 t.2.1 u.1 t1 t2 u1) (.inl rfl) ?_
    simp
    refine brB_of (fun h1 => ?_) (fun h1 => ?_) <;> simp at h1
    · simp [h1]
      refine callW_of (kk t.1 t.2.1 u.2.1 t1 t2 u2) (.inl rfl) ?_
      simp
      refine brB_of (fun h2 => ?_) (fun h2 => ?_) <;> simp at h2
      · simp [h2]
        refine callW_of (kk t.1 t.2.1 u.2.2 t1 t2 u3) (.inl rfl) ?_
        simp
        refine brB_of (fun h3 => ?_) (fun h3 => ?_) <;> simp at h3 <;> simp [h3]
        · simp [S, h1, h2, h3]
        · refine ⟨1, ⟨by omega, fun _ => by simp only [S, Bool.and_eq_false_iff, decide_eq_false_iff_not]; omega, fun h => by omega, fun h => by omega⟩, by omega, ?_⟩ <;> simp [w64_1, w64_2, w64_3]
      · simp [Int.not_le.2 h2]
        refine ⟨1, ⟨by omega, fun _ => by simp only [S, Bool.and_eq_false_iff, decide_eq_false_iff_not]; omega, fun h => by omega, fun h => by omega⟩, by omega, ?_⟩ <;> simp [w64_1, w64_2, w64_3]
    · simp [Int.not_le.2 h1]
      refine ⟨1, ⟨by omega, fun _ => by simp only [S, Bool.and_eq_false_iff, decide_eq_false_iff_not]; omega, fun h => by omega, fun h => by omega⟩, by omega, ?_⟩ <;> simp [w64_1, w64_2, w64_3]
  · simp [triD, w64_1, w64_2, w64_3]
    refine ⟨indW_of (by decide +kernel), ?_⟩
    refine callW_of (kk t.2.1 t.2.2 u.1 t2 t3 u1) (.inl rfl) ?_
    simp
    refine brB_of (fun h1 => ?_) (fun h1 => ?_) <;> simp at h1
    · simp [h1]
      refine callW_of (kk t.2.1 t.2.2 u.2.1 t2 t3 u2) (.inl rfl) ?_
      simp
      refine brB_of (fun h2 => ?_) (fun h2 => ?_) <;> simp at h2
      · simp [h2]
        refine callW_of (kk t.2.1 t.2.2 u.2.2 t2 t3 u3) (.inl rfl) ?_
        simp
        refine brB_of (fun h3 => ?_) (fun h3 => ?_) <;> simp at h3 <;> simp [h3]
        · simp [S, h1, h2, h3]
        · refine ⟨2, ⟨by omega, fun _ => s1 (by omega), fun _ => by simp only [S, Bool.and_eq_false_iff, decide_eq_false_iff_not]; omega, fun h => by omega⟩, by omega, ?_⟩ <;> simp [w64_1, w64_2, w64_3]
      · simp [Int.not_le.2 h2]
        refine ⟨2, ⟨by omega, fun _ => s1 (by omega), fun _ => by simp only [S, Bool.and_eq_false_iff, decide_eq_false_iff_not]; omega, fun h => by omega⟩, by omega, ?_⟩ <;> simp [w64_1, w64_2, w64_3]
    · simp [Int.not_le.2 h1]
      refine ⟨2, ⟨by omega, fun _ => s1 (by omega), fun _ => by simp only [S, Bool.and_eq_false_iff, decide_eq_false_iff_not]; omega, fun h => by omega⟩, by omega, ?_⟩ <;> simp [w64_1, w64_2, w64_3]
  · simp [triD, w64_1, w64_2, w64_3]
    refine ⟨indW_of (by decide +kernel), ?_⟩
    refine callW_of (kk t.2.2 t.1 u.1 t3 t1 u1) (.inl rfl) ?_
    simp
    refine brB_of (fun h1 => ?_) (fun h1 => ?_) <;> simp at h1
    · simp [h1]
      refine callW_of (kk t.2.2 t.1 u.2.1 t3 t1 u2) (.inl rfl) ?_
      simp
      refine brB_of (fun h2 => ?_) (fun h2 => ?_) <;> simp at h2
      · simp [h2]
        refine callW_of (kk t.2.2 t.1 u.2.2 t3 t1 u3) (.inl rfl) ?_
        simp
        refine brB_of (fun h3 => ?_) (fun h3 => ?_) <;> simp at h3 <;> simp [h3]
        · simp [S, h1, h2, h3]
        · refine ⟨3, ⟨by omega, fun _ => s1 (by omega), fun _ => s2 (by omega), fun _ => by simp only [S, Bool.and_eq_false_iff, decide_eq_false_iff_not]; omega⟩, by omega, ?_⟩ <;> simp [w64_1, w64_2, w64_3]
      · simp [Int.not_le.2 h2]
        refine ⟨3, ⟨by omega, fun _ => s1 (by omega), fun _ => s2 (by omega), fun _ => by simp only [S, Bool.and_eq_false_iff, decide_eq_false_iff_not]; omega⟩, by omega, ?_⟩ <;> simp [w64_1, w64_2, w64_3]
    · simp [Int.not_le.2 h1]
      refine ⟨3, ⟨by omega, fun _ => s1 (by omega), fun _ => s2 (by omega), fun _ => by simp only [S, Bool.and_eq_false_iff, decide_eq_false_iff_not]; omega⟩, by omega, ?_⟩ <;> simp [w64_1, w64_2, w64_3]
  · simp [s1 (by omega), s2 (by omega), s3 (by omega)]
def triR (t : Tri) : List (List D) := [ptD t.1, ptD t.2.1, ptD t.2.2]
end Go.Gv

set_option linter.unusedSimpArgs false
namespace Go.Gv
def okc (m : Msh) (a b : Int) : Bool := inR1 m.s.length a && decide (a ≠ b) && rightS (spt m a.toNat)
def okF (m : Msh) (f : Fce) : Bool := okc m f.a f.b && okc m f.b f.c && okc m f.c f.a && decide (0 ≤ f.k) && decide (f.k < 16)
def mtc (f g : Fce) (i k : Nat) : Bool := decide (crn f i = crn g k) && decide (crn f (i + 1) = crn g (k + 1))
def shareB (f g : Fce) : Bool := (List.range 3).any fun i => (List.range 3).any fun k => mtc f g i k
theorem okF_inS {m : Msh} {f : Fce} (h : okF m f = true) : inS m f = true := by
  simp only [okF, okc, Bool.and_eq_true] at h
  simp only [inS, Bool.and_eq_true]
  exact ⟨⟨h.1.1.1.1.1.1, h.1.1.1.2.1.1⟩, h.1.1.2.1.1⟩
theorem okF_okT {m : Msh} {f : Fce} (h : okF m f = true) : okT (triF m f) = true := by
  simp only [okF, okc, Bool.and_eq_true] at h
  simp only [okT, triF, Bool.and_eq_true]
  exact ⟨⟨okP_of h.1.1.1.1.2, okP_of h.1.1.1.2.2⟩, okP_of h.1.1.2.2⟩
def digB (n : Nat) : UInt8 := UInt8.ofNat (48 + n % 10)
def decL (n : Nat) (out : List UInt8) : List UInt8 := if n < 10 then digB n :: out else decL (n / 10) (digB n :: out)
def decR (n : Nat) (out : List UInt8) : List UInt8 := if n = 0 then out else decL n out
variable {C : CC} (hC : Closed prog C)
include hC
end Go.Gv

set_option linter.unusedSimpArgs false
namespace Go.Gv
def sptP (m : Msh) (i : Nat) : Pnt := ptS (spt m i)
def fil (p : Nat → Bool) (n : Nat) : List Nat := (List.range n).filter p
theorem fil_zero (p : Nat → Bool) : fil p 0 = [] := rfl
theorem fil_yes {p : Nat → Bool} {n : Nat} (h : p n = true) : fil p (n + 1) = fil p n ++ [n] := by
  rw [fil, List.range_succ, List.filter_append]
  simp [h, fil]
theorem fil_no {p : Nat → Bool} {n : Nat} (h : p n = false) : fil p (n + 1) = fil p n := by
  rw [fil, List.range_succ, List.filter_append]
  simp [h, fil]
theorem fil_le (p : Nat → Bool) (n : Nat) : (fil p n).length ≤ n := by
  have := List.length_filter_le p (List.range n)
  rw [fil]
  simpa using this
theorem fil_lt {p : Nat → Bool} {n i : Nat} (h : i ∈ fil p n) : i < n ∧ p i = true := by
  rw [fil, List.mem_filter, List.mem_range] at h
  exact h
theorem fil_nil {p : Nat → Bool} {n : Nat} : fil p n = [] ↔ ∀ i, i < n → p i = false := by
  rw [fil, List.filter_eq_nil_iff]
  simp
def farB (m : Msh) (i : Nat) : Bool := !rightS (spt m i)
def sameB (m : Msh) (i : Nat) : Bool := rightS (spt m i) && (List.range i).any fun k => rightS (spt m k) && decide (sptP m k = sptP m i)
def badB (m : Msh) (i : Nat) : Bool := !okF m (fce m i)
def flatB (m : Msh) (i : Nat) : Bool := okF m (fce m i) && decide (turnT (triF m (fce m i)) ≤ 0)
def sndB (m : Msh) (i : Nat) : Bool := okF m (fce m i) && decide (0 < turnT (triF m (fce m i)))
def sideB (m : Msh) (i : Nat) : Bool := sndB m i && (List.range i).any fun k => sndB m k && shareB (fce m i) (fce m k)
def overB (m : Msh) (i : Nat) : Bool := sndB m i && (List.range i).any fun k => sndB m k && ovT (triF m (fce m i)) (triF m (fce m k))
def LL (m : Msh) : List (List Nat) := [[], fil (farB m) m.s.length, fil (sameB m) m.s.length, fil (badB m) m.f.length, fil (flatB m) m.f.length, fil (sideB m) m.f.length, fil (overB m) m.f.length]
def outF (dec : Nat → List UInt8) : Nat → List (List Nat) → List (Int × List UInt8)
  | _, [] => []
  | k, l :: r => (l.map fun i => ((k : Int), dec i)) ++ outF dec (k + 1) r
def fnD (x : Int × List UInt8) : List D := [.int .i64 x.1, .str x.2]
def smallM (m : Msh) : Bool := decide (m.s.length ≤ 2000) && decide (m.f.length ≤ 4000)
def validM (m : Msh) : Bool := smallM m && (LL m).all fun l => decide (l = [])
theorem outF_nil (dec : Nat → List UInt8) : ∀ (k : Nat) (ls : List (List Nat)), outF dec k ls = [] ↔ (ls.all fun l => decide (l = [])) = true
  | _, [] => by simp [outF]
  | k, l :: r => by simp [outF, outF_nil dec (k + 1) r]
def ptKs (m : Msh) : Nat → List D
  | 0 => []
  | i + 1 => if rightS (spt m i) then .agg (ptD (sptP m i)) :: ptKs m i else ptKs m i
def ptVs (m : Msh) : Nat → List D
  | 0 => []
  | i + 1 => if rightS (spt m i) then .bool true :: ptVs m i else ptVs m i
theorem ptKs_len (m : Msh) : ∀ i, (ptKs m i).length ≤ i
  | 0 => by simp [ptKs]
  | i + 1 => by
    have := ptKs_len m i
    rw [ptKs]
    split <;> simp <;> omega
theorem eqD_pt (p q : Pnt) : eqD (.agg (ptD p)) (.agg (ptD q)) = decide (q = p) := by
  obtain ⟨a, b⟩ := p
  obtain ⟨c, d⟩ := q
  simp [eqD, eqDs, eqD1, ptD]
  rw [Bool.eq_iff_iff]
  simp
  exact ⟨fun h => ⟨h.1.symm, h.2.symm⟩, fun h => ⟨h.1.symm, h.2.symm⟩⟩
theorem pt_get (m : Msh) (p : Pnt) : ∀ i, (mpGet (ptKs m i) (ptVs m i) (.agg (ptD p))).getD (.bool false) = .bool ((List.range i).any fun k => rightS (spt m k) && decide (sptP m k = p))
  | 0 => rfl
  | i + 1 => by
    rw [ptKs, ptVs, List.range_succ, List.any_append]
    by_cases h : rightS (spt m i) = true
    · rw [if_pos h, if_pos h, mpGet, eqD_pt]
      by_cases h2 : sptP m i = p
      · simp [h, h2]
      · simp [h2, pt_get m p i]
    · rw [if_neg h, if_neg h, pt_get m p i]
      simp [h]
def farR (m : Msh) (i : Nat) : List Bool := (List.range m.s.length).map fun j => decide (j < i) && farB m j
theorem farR_len (m : Msh) (i : Nat) : (farR m i).length = m.s.length := by simp [farR]
theorem farR_zero (m : Msh) : farR m 0 = List.replicate m.s.length false := by
  refine List.ext_getElem (by simp [farR]) fun k h1 h2 => ?_
  simp [farR]
theorem farR_set (m : Msh) {i : Nat} (h : i < m.s.length) : (farR m i).set i (farB m i) = farR m (i + 1) := by
  refine List.ext_getElem (by simp [farR]) fun k h1 h2 => ?_
  rw [List.getElem_set]
  simp only [farR, List.getElem_map, List.getElem_range]
  by_cases e : i = k
  · subst e; simp
  · rw [if_neg e]
    by_cases e2 : k < i
    · simp [e2, show k < i + 1 by omega]
    · simp [e2, show ¬ k < i + 1 by omega]
theorem farR_all (m : Msh) {k : Nat} (h : k < m.s.length) : (farR m m.s.length)[k]'(by rw [farR_len]; exact h) = farB m k := by simp [farR, h]
variable {C : CC} (hC : Closed prog C)
include hC
theorem idxTri_c {b : Bool} {xs : List Tri} {g : Nat} {cs : List D} (p : Tri → Bool) (hs : xs.length < 2 ^ 62) (hp : ∀ x ∈ xs, C g (.agg (triD x) :: cs) (.bool (p x)) []) : C 328 [slx b (xs.map triD), .fn g cs] (.int .i64 (idxD p xs)) [] := by
  refine start hC (nf := N328_slices_IndexFunc___3api_Point__3api_Point) rfl rfl ?_
  simp [N328_slices_IndexFunc___3api_Point__3api_Point]
  refine loop_of Nat (fun i => [(0, slx b (xs.map triD)), (1, .fn g cs), (7, .int .i64 xs.length), (8, .int .i64 i)]) (fun i => i ≤ xs.length ∧ ∀ (j : Nat) (h : j < xs.length), j < i → p xs[j] = false) (fun i => xs.length - i) 0 (by simp) (by simp) ?_
  rintro i ⟨hi, hj⟩
  simp
  refine brB_of (fun h => ?_) (fun h => ?_) <;> simp [h] <;> simp at h
  · have hw : IntKind.wrap .i64 ((i : Int) + 1) = ((i + 1 : Nat) : Int) := wrap_i64 (by omega) (by omega)
    have hc := hp _ (List.getElem_mem h)
    simp [h, List.getElem_map, triD] at hc ⊢
    refine callW_of hc (.inl rfl) ?_
    simp
    refine brB_of (fun h1 => ?_) (fun h1 => ?_) <;> simp [h1, hw]
    · rw [idxD_step hj h h1]
    · refine ⟨i + 1, ⟨by omega, fun j hl hjj => ?_⟩, by omega, by simp [triD]⟩
      rcases Nat.lt_succ_iff_lt_or_eq.1 hjj with h2 | rfl
      · exact hj j hl h2
      · exact h1
  · rw [idxD_none (fun j hl => hj j hl (by omega))]
theorem hasTri_c {b : Bool} {xs : List Tri} {g : Nat} {cs : List D} (p : Tri → Bool) (hs : xs.length < 2 ^ 62) (hp : ∀ x ∈ xs, C g (.agg (triD x) :: cs) (.bool (p x)) []) : C 309 [slx b (xs.map triD), .fn g cs] (.bool (xs.any p)) [] := by
  refine start hC (nf := N309_slices_ContainsFunc___3api_Point__3api_Point) rfl rfl ?_
  simp [N309_slices_ContainsFunc___3api_Point__3api_Point]
  refine callW_of (idxTri_c hC p hs hp) (.inl rfl) ?_
  simp [idxD_any]
theorem chk1_c (m : Msh) (k : Int) (hn : m.s.length < 2 ^ 40) : C 306 [.int .i64 k, .ptr (mshC m), .ptr [.sl ((farR m m.s.length).map fun b => [.bool b])]] (.bool (!(inR1 m.s.length k && rightS (spt m k.toNat)))) [] := by
  have E : inR1 m.s.length k = (decide (0 ≤ k) && decide (k < m.s.length)) := rfl
  refine start hC (nf := N306_mesh_Check_1) rfl rfl ?_
  simp [N306_mesh_Check_1, mshC]
  refine brB_of (fun c1 => ?_) (fun c1 => ?_) <;> simp at c1
  · simp [c1]
    rw [E, decide_eq_false (by omega)]; simp
  · simp [Int.not_lt.2 c1]
    refine brB_of (fun c2 => ?_) (fun c2 => ?_) <;> simp at c2
    · simp [c2]
      rw [E, decide_eq_false (show ¬ k < m.s.length by omega)]; simp
    · have c3 : k.toNat < m.s.length := by omega
      have c4 := farR_all m c3
      simp [Int.not_le.2 c2, c1, c3, farR_len]
      rw [c4, E, decide_eq_true c1, decide_eq_true c2]
      simp [farB]
theorem chk2_c {t o : Tri} (ht : okT t = true) (ho : okT o = true) : C 310 [.agg (triD o), .ptr (triD t)] (.bool (ovT t o)) [] := by
  have k1 := sep_c hC ht ho
  have k2 := sep_c hC ho ht
  refine start hC (nf := N310_mesh_Check_2) rfl rfl ?_
  rw [triD, triD] at k1 k2 ⊢
  simp [N310_mesh_Check_2]
  refine callW_of k1 (.inl rfl) ?_
  simp
  cases h1 : sepT t o <;> simp [ovT, h1]
  refine callW_of k2 (.inl rfl) ?_
  simp
  exact fun _ => h1
end Go.Gv

set_option linter.unusedSimpArgs false
namespace Go.Gv
def nmR (l : List Nat) : List (List D) := l.map fun (k : Nat) => [D.int .i64 k]
theorem nmR_eq (l : List Nat) : nmR l = l.map fun (k : Nat) => [D.int .i64 k] := _root_.id rfl
theorem nmR_yes {p : Nat → Bool} {n : Nat} (h : p n = true) : nmR (fil p n) ++ [[D.int .i64 n]] = nmR (fil p (n + 1)) := by
  rw [fil_yes h]; simp [nmR]
theorem nmR_no {p : Nat → Bool} {n : Nat} (h : p n = false) : nmR (fil p n) = nmR (fil p (n + 1)) := by rw [fil_no h]
@[simp] theorem nmR_len (l : List Nat) : (nmR l).length = l.length := by simp [nmR]
@[simp] theorem nmR_c1 (l : List Nat) : (∀ e ∈ nmR l, ∀ c ∈ e, isC1 c = true) = True := by simp [nmR]
@[simp] theorem nmR_take (l : List Nat) : List.take l.length (nmR l) = nmR l := List.take_of_length_le (by simp)
@[simp] theorem nmR_c1a (l : List Nat) (x : List D) : (∀ e, e ∈ nmR l ∨ e = x → ∀ c, c ∈ e → isC1 c = true) = ∀ c, c ∈ x → isC1 c = true := by
  apply propext
  constructor
  · exact fun h => h x (.inr rfl)
  · rintro h e (he | rfl)
    · exact (nmR_c1 l).mpr trivial e he
    · exact h
@[simp] theorem nmR_nil : nmR [] = [] := rfl
def boR (l : List Bool) : List (List D) := l.map fun b => [D.bool b]
theorem boR_eq (l : List Bool) : boR l = l.map fun b => [D.bool b] := _root_.id rfl
@[simp] theorem boR_len (l : List Bool) : (boR l).length = l.length := by simp [boR]
@[simp] theorem boR_get (l : List Bool) (i : Nat) (h : i < (boR l).length) : (boR l)[i] = [D.bool (l[i]'(by simpa using h))] := by simp [boR]
@[simp] theorem boR_set (l : List Bool) (i : Nat) (b : Bool) : (boR l).set i [D.bool b] = boR (l.set i b) := by simp [boR, List.map_set]
theorem farR_set' (m : Msh) {i : Nat} (h : i < m.s.length) : (farR m i).set i (!rightS (spt m i)) = farR m (i + 1) := farR_set m h
theorem farR_at (m : Msh) {i : Nat} (h : i < m.s.length) (h' : i < (farR m (i + 1)).length) : (farR m (i + 1))[i] = !rightS (spt m i) := by simp [farR, farB]
theorem farR_rep (m : Msh) : List.replicate m.s.length [D.bool false] = boR (farR m 0) := by rw [farR_zero]; simp [boR]
def chkL1 (m : Msh) (i : Nat) : Env := [(1, .ptr (mshC m)), (4, .adr (.r 10064) 0 0), (10064, .blk 7 [[.own 1 [], .own 1 (nmR (fil (farB m) i)), .own 1 (nmR (fil (sameB m) i)), .own 1 [], .own 1 [], .own 1 [], .own 1 []]]), (5, .adr (.r 10080) 0 0), (10080, .blk 1 [[.own 1 (boR (farR m i))]]), (6, .mrf 10464), (10464, .mp 4 1 (ptKs m i) (ptVs m i)), (31, slx m.sn (m.s.map sptC)), (32, .int .i64 m.s.length), (33, .int .i64 i)]
theorem chkL1_eq (m : Msh) (i : Nat) : chkL1 m i = [(1, .ptr (mshC m)), (4, .adr (.r 10064) 0 0), (10064, .blk 7 [[.own 1 [], .own 1 (nmR (fil (farB m) i)), .own 1 (nmR (fil (sameB m) i)), .own 1 [], .own 1 [], .own 1 [], .own 1 []]]), (5, .adr (.r 10080) 0 0), (10080, .blk 1 [[.own 1 (boR (farR m i))]]), (6, .mrf 10464), (10464, .mp 4 1 (ptKs m i) (ptVs m i)), (31, slx m.sn (m.s.map sptC)), (32, .int .i64 m.s.length), (33, .int .i64 i)] := _root_.id rfl
def trR (m : Msh) (l : List Nat) : List (List D) := l.map fun k => triD (triF m (fce m k))
theorem trR_eq (m : Msh) (l : List Nat) : trR m l = (l.map fun k => triF m (fce m k)).map triD := by simp [trR]
@[simp] theorem trR_len (m : Msh) (l : List Nat) : (trR m l).length = l.length := by simp [trR]
@[simp] theorem trR_take (m : Msh) (l : List Nat) : List.take l.length (trR m l) = trR m l := List.take_of_length_le (by simp)
@[simp] theorem trR_cv (m : Msh) (l : List Nat) : List.map (fun e => List.map cellV e) (trR m l) = trR m l := by simp [trR, triD]
@[simp] theorem trR_nil (m : Msh) : trR m [] = [] := rfl
theorem trR_yes {m : Msh} {i : Nat} (h : sndB m i = true) : trR m (fil (sndB m) i) ++ [triD (triF m (fce m i))] = trR m (fil (sndB m) (i + 1)) := by rw [fil_yes h]; simp [trR]
def sdK (f : Fce) : Nat → List D
  | 0 => []
  | j + 1 => .agg [.int .i64 (crn f j), .int .i64 (crn f (j + 1))] :: sdK f j
theorem sdK_len (f : Fce) : ∀ j, (sdK f j).length = j
  | 0 => rfl
  | j + 1 => by simp [sdK, sdK_len f j]
def tkKs (m : Msh) : Nat → List D
  | 0 => []
  | i + 1 => if sndB m i then sdK (fce m i) 3 ++ tkKs m i else tkKs m i
def tkVs (m : Msh) : Nat → List D
  | 0 => []
  | i + 1 => if sndB m i then List.replicate 3 (.bool true) ++ tkVs m i else tkVs m i
theorem tkKs_len (m : Msh) : ∀ i, (tkKs m i).length ≤ 3 * i
  | 0 => by simp [tkKs]
  | i + 1 => by
    have := tkKs_len m i
    rw [tkKs]
    split <;> simp [sdK_len] <;> omega
def hasS (m : Msh) (i j : Nat) : Bool := (List.range i).any fun k => sndB m k && (List.range 3).any fun j' => mtc (fce m i) (fce m k) j j'
theorem eqD_2 (a b c d : Int) : eqD (.agg [.int .i64 a, .int .i64 b]) (.agg [.int .i64 c, .int .i64 d]) = (decide (a = c) && decide (b = d)) := by
  simp [eqD, eqDs, eqD1]
theorem tk_get (m : Msh) (a b : Int) : ∀ i, (mpGet (tkKs m i) (tkVs m i) (.agg [.int .i64 a, .int .i64 b])).getD (.bool false) = .bool ((List.range i).any fun k => sndB m k && (List.range 3).any fun j => decide (a = crn (fce m k) j) && decide (b = crn (fce m k) (j + 1)))
  | 0 => rfl
  | i + 1 => by
    rw [tkKs, tkVs, List.range_succ, List.any_append]
    have h3 : List.range 3 = [0, 1, 2] := rfl
    by_cases h : sndB m i = true
    · rw [if_pos h, if_pos h]
      simp only [sdK, List.replicate, List.cons_append, List.nil_append, mpGet, eqD_2]
      have ih := tk_get m a b i
      by_cases c0 : (decide (a = crn (fce m i) 2) && decide (b = crn (fce m i) (2 + 1))) = true
      · rw [if_pos c0]
        simp only [List.any_cons, List.any_nil, h, h3, c0]
        simp
      · rw [if_neg c0]
        by_cases c1 : (decide (a = crn (fce m i) 1) && decide (b = crn (fce m i) (1 + 1))) = true
        · rw [if_pos c1]
          simp only [List.any_cons, List.any_nil, h, h3, c1]
          simp
        · rw [if_neg c1]
          by_cases c2 : (decide (a = crn (fce m i) 0) && decide (b = crn (fce m i) (0 + 1))) = true
          · rw [if_pos c2]
            simp only [List.any_cons, List.any_nil, h, h3, c2]
            simp
          · rw [if_neg c2, ih]
            rw [Bool.not_eq_true] at c0 c1 c2
            simp only [List.any_cons, List.any_nil, h, h3, c0, c1, c2]
            simp
    · rw [if_neg h, if_neg h, tk_get m a b i]
      simp [h]
theorem any_or3 {α : Type} (A p q r : α → Bool) (l : List α) : (l.any fun k => A k && (p k || (q k || r k))) = ((l.any fun k => A k && p k) || ((l.any fun k => A k && q k) || (l.any fun k => A k && r k))) := by
  induction l with
  | nil => rfl
  | cons x l ih =>
    simp only [List.any_cons, ih]
    cases A x <;> cases p x <;> cases q x <;> cases r x <;> simp
theorem sideB_eq {m : Msh} {i : Nat} (h : sndB m i = true) : sideB m i = (hasS m i 0 || (hasS m i 1 || hasS m i 2)) := by
  unfold sideB shareB hasS
  rw [h, Bool.true_and, ← any_or3]
  have h3 : List.range 3 = [0, 1, 2] := rfl
  simp only [h3, List.any_cons, List.any_nil, Bool.or_false]
theorem crn_bd {m : Msh} {f : Fce} (h : inS m f = true) (j : Nat) : 0 ≤ crn f j ∧ crn f j < m.s.length := by
  have := inS_bd h
  unfold crn
  split <;> omega
def chkL3 (m : Msh) (i k : Nat) : Env := [(1, .ptr (mshC m)), (4, .adr (.r 10064) 0 0), (10064, .blk 7 [[.own 1 [], .own 1 (nmR (fil (farB m) m.s.length)), .own 1 (nmR (fil (sameB m) m.s.length)), .own 1 (nmR (fil (badB m) i)), .own 1 (nmR (fil (flatB m) i)), .own 1 (nmR (fil (sideB m) (i + 1))), .own 1 (nmR (fil (overB m) i))]]), (5, .adr (.r 10080) 0 0), (10080, .blk 1 [[.own 1 (boR (farR m m.s.length))]]), (10, .mrf 11104), (11104, .mp 3 1 (sdK (fce m i) k ++ tkKs m i) (List.replicate k (.bool true) ++ tkVs m i)), (11, .ref (.r 10176) 0 (fil (sndB m) i).length), (10176, .blk 6 (trR m (fil (sndB m) i))), (12, .int .i64 i), (13, .adr (.r 10208) 0 0), (10208, .blk 4 [fceC (fce m i)]), (15, .adr (.r 10240) 0 0), (10240, .blk 6 [triD (triF m (fce m i))]), (71, slx m.fn (m.f.map fceC)), (72, .int .i64 m.f.length), (73, .int .i64 i), (159, .int .i64 k)]
theorem chkL3_eq (m : Msh) (i k : Nat) : chkL3 m i k = [(1, .ptr (mshC m)), (4, .adr (.r 10064) 0 0), (10064, .blk 7 [[.own 1 [], .own 1 (nmR (fil (farB m) m.s.length)), .own 1 (nmR (fil (sameB m) m.s.length)), .own 1 (nmR (fil (badB m) i)), .own 1 (nmR (fil (flatB m) i)), .own 1 (nmR (fil (sideB m) (i + 1))), .own 1 (nmR (fil (overB m) i))]]), (5, .adr (.r 10080) 0 0), (10080, .blk 1 [[.own 1 (boR (farR m m.s.length))]]), (10, .mrf 11104), (11104, .mp 3 1 (sdK (fce m i) k ++ tkKs m i) (List.replicate k (.bool true) ++ tkVs m i)), (11, .ref (.r 10176) 0 (fil (sndB m) i).length), (10176, .blk 6 (trR m (fil (sndB m) i))), (12, .int .i64 i), (13, .adr (.r 10208) 0 0), (10208, .blk 4 [fceC (fce m i)]), (15, .adr (.r 10240) 0 0), (10240, .blk 6 [triD (triF m (fce m i))]), (71, slx m.fn (m.f.map fceC)), (72, .int .i64 m.f.length), (73, .int .i64 i), (159, .int .i64 k)] := _root_.id rfl
def fnR (l : List (Int × List UInt8)) : List (List D) := l.map fnD
@[simp] theorem fnR_len (l : List (Int × List UInt8)) : (fnR l).length = l.length := by simp [fnR]
@[simp] theorem fnR_take (l : List (Int × List UInt8)) : List.take l.length (fnR l) = fnR l := List.take_of_length_le (by simp)
@[simp] theorem fnR_cv (l : List (Int × List UInt8)) : List.map (fun e => List.map cellV e) (fnR l) = fnR l := by simp [fnR, fnD]
theorem fnR_add (l : List (Int × List UInt8)) (k : Int) (s : List UInt8) : fnR l ++ [[.int .i64 k, .str s]] = fnR (l ++ [(k, s)]) := by simp [fnR, fnD]
@[simp] theorem fnR_nil : fnR [] = [] := rfl
def agx6 (L1 L2 L3 L4 L5 L6 : List Nat) : D := .agx [.ref (.n 10064 0 0) 0 0, .ref (.n 10064 0 1) 0 L1.length, .ref (.n 10064 0 2) 0 L2.length, .ref (.n 10064 0 3) 0 L3.length, .ref (.n 10064 0 4) 0 L4.length, .ref (.n 10064 0 5) 0 L5.length, .ref (.n 10064 0 6) 0 L6.length]
theorem agx6_eq (L1 L2 L3 L4 L5 L6 : List Nat) : agx6 L1 L2 L3 L4 L5 L6 = .agx [.ref (.n 10064 0 0) 0 0, .ref (.n 10064 0 1) 0 L1.length, .ref (.n 10064 0 2) 0 L2.length, .ref (.n 10064 0 3) 0 L3.length, .ref (.n 10064 0 4) 0 L4.length, .ref (.n 10064 0 5) 0 L5.length, .ref (.n 10064 0 6) 0 L6.length] := _root_.id rfl
def blk6 (L1 L2 L3 L4 L5 L6 : List Nat) : D := .blk 7 [[.own 1 [], .own 1 (nmR L1), .own 1 (nmR L2), .own 1 (nmR L3), .own 1 (nmR L4), .own 1 (nmR L5), .own 1 (nmR L6)]]
theorem blk6_eq (L1 L2 L3 L4 L5 L6 : List Nat) : blk6 L1 L2 L3 L4 L5 L6 = .blk 7 [[.own 1 [], .own 1 (nmR L1), .own 1 (nmR L2), .own 1 (nmR L3), .own 1 (nmR L4), .own 1 (nmR L5), .own 1 (nmR L6)]] := _root_.id rfl
theorem outF_app (dec : Nat → List UInt8) : ∀ (a b : List (List Nat)) (k : Nat), outF dec k (a ++ b) = outF dec k a ++ outF dec (k + a.length) b
  | [], b, k => by simp [outF]
  | x :: a, b, k => by
    have := outF_app dec a b (k + 1)
    simp only [List.cons_append, outF, this, List.append_assoc, List.length_cons]
    rw [show k + 1 + a.length = k + (a.length + 1) by omega]
def tkD (dec : Nat → List UInt8) (k : Int) (L : List Nat) (j : Nat) : List (Int × List UInt8) := (L.take j).map fun i => (k, dec i)
theorem tkD_zero (dec : Nat → List UInt8) (k : Int) (L : List Nat) : tkD dec k L 0 = [] := by simp [tkD]
theorem tkD_succ (dec : Nat → List UInt8) (k : Int) (L : List Nat) {j : Nat} (h : j < L.length) : tkD dec k L (j + 1) = tkD dec k L j ++ [(k, dec L[j])] := by
  unfold tkD
  rw [List.take_add_one, List.getElem?_eq_getElem h, List.map_append]
  rfl
theorem tkD_len (dec : Nat → List UInt8) (k : Int) (L : List Nat) {j : Nat} (h : j ≤ L.length) : (tkD dec k L j).length = j := by simp [tkD]; omega
theorem tkD_all (dec : Nat → List UInt8) (k : Int) (L : List Nat) : tkD dec k L L.length = L.map fun i => (k, dec i) := by simp [tkD]
def chkL2 (m : Msh) (i : Nat) : Env := [(1, .ptr (mshC m)), (4, .adr (.r 10064) 0 0), (10064, .blk 7 [[.own 1 [], .own 1 (nmR (fil (farB m) m.s.length)), .own 1 (nmR (fil (sameB m) m.s.length)), .own 1 (nmR (fil (badB m) i)), .own 1 (nmR (fil (flatB m) i)), .own 1 (nmR (fil (sideB m) i)), .own 1 (nmR (fil (overB m) i))]]), (5, .adr (.r 10080) 0 0), (10080, .blk 1 [[.own 1 (boR (farR m m.s.length))]]), (10, .mrf 11104), (11104, .mp 3 1 (tkKs m i) (tkVs m i)), (11, .ref (.r 10176) 0 (fil (sndB m) i).length), (10176, .blk 6 (trR m (fil (sndB m) i))), (71, slx m.fn (m.f.map fceC)), (72, .int .i64 m.f.length), (73, .int .i64 i)]
theorem chkL2_eq (m : Msh) (i : Nat) : chkL2 m i = [(1, .ptr (mshC m)), (4, .adr (.r 10064) 0 0), (10064, .blk 7 [[.own 1 [], .own 1 (nmR (fil (farB m) m.s.length)), .own 1 (nmR (fil (sameB m) m.s.length)), .own 1 (nmR (fil (badB m) i)), .own 1 (nmR (fil (flatB m) i)), .own 1 (nmR (fil (sideB m) i)), .own 1 (nmR (fil (overB m) i))]]), (5, .adr (.r 10080) 0 0), (10080, .blk 1 [[.own 1 (boR (farR m m.s.length))]]), (10, .mrf 11104), (11104, .mp 3 1 (tkKs m i) (tkVs m i)), (11, .ref (.r 10176) 0 (fil (sndB m) i).length), (10176, .blk 6 (trR m (fil (sndB m) i))), (71, slx m.fn (m.f.map fceC)), (72, .int .i64 m.f.length), (73, .int .i64 i)] := _root_.id rfl
variable {C : CC} (hC : Closed prog C)
include hC
set_option maxHeartbeats 4000000 in
theorem Check_c (dec : Nat → List UInt8) (hI : ∀ n : Nat, n < 100 → C 127 [.int .i64 n] (.str (dec n)) []) (m : Msh) (hs : m.s.length ≤ 100) (hf : m.f.length ≤ 100) : C 273 [.agg (mshC m)] (.tup [.sl ((outF dec 0 (LL m)).map fnD), .int .i64 0]) [] := by
  have ksm := msmall_c hC m
  rw [decide_eq_true (show m.s.length ≤ 2000 by omega), decide_eq_true (show m.f.length ≤ 4000 by omega)] at ksm
  have kr := fun s => mright_c hC s
  have kp := fun i h => mpoint_c hC m i h
  refine start hC (nf := N273_mesh_Check) rfl rfl ?_
  simp only [mshC_eq] at ksm
  simp [N273_mesh_Check, mshC_eq]
  refine callW_of ksm (.inl rfl) ?_
  simp
  refine ⟨by omega, ?_⟩
  refine loop_of Nat (fun i => chkL1 m i) (fun i => i ≤ m.s.length) (fun i => m.s.length - i) 0 (by simp) (by simp [chkL1_eq, mshC_eq, fil_zero, ptKs, ptVs, farR_rep]) ?_
  rintro i hi
  simp [chkL1_eq, mshC_eq]
  refine brB_of (fun g1 => ?_) (fun g1 => ?_) <;> simp at g1 <;> simp [g1]
  · have hw : IntKind.wrap .i64 ((i : Int) + 1) = ((i + 1 : Nat) : Int) := wrap_i64 (by omega) (by omega)
    have kri := kr (spt m i)
    simp only [sptC_eq] at kri
    simp [sptC_eq]
    refine callW_of kri (.inl rfl) ?_
    simp [farR_len, g1]
    refine ⟨indW_of (by decide +kernel), ?_⟩
    rw [farR_set' m g1]
    rw [boR_eq]
    simp [farR_len, g1, farR_at]
    have kpi := kp i g1
    simp only [mshC_eq] at kpi
    have hr := okP_of (s := spt m i)
    cases hr1 : rightS (spt m i)
    · have e1 := nmR_yes (p := farB m) (n := i) (by simp [farB, hr1])
      have e2 := nmR_no (p := sameB m) (n := i) (by simp [sameB, hr1])
      have e3 : ptKs m (i + 1) = ptKs m i := by simp [ptKs, hr1]
      have e4 : ptVs m (i + 1) = ptVs m i := by simp [ptVs, hr1]
      simp [hw]
      refine ⟨by have := fil_le (farB m) i; omega, i + 1, by omega, by omega, ?_⟩
      simp [chkL1_eq, mshC_eq, e1, ← e2, e3, e4, ← boR_eq]
    · have hp := okP_bd (hr hr1)
      have e2 := nmR_no (p := farB m) (n := i) (by simp [farB, hr1])
      have e3 : ptKs m (i + 1) = .agg (ptD (sptP m i)) :: ptKs m i := by simp [ptKs, hr1]
      have e4 : ptVs m (i + 1) = .bool true :: ptVs m i := by simp [ptVs, hr1]
      have kg := pt_get m (sptP m i) i
      have kl := ptKs_len m i
      have hml : maxLen = 9223372036854775807 := rfl
      simp [mshC_eq]
      refine callW_of kpi (.inl rfl) ?_
      simp [ptD, ptS, sptP] at kg hp
      simp [ptD, ptS, kg]
      refine ⟨⟨by omega, by omega⟩, ?_⟩
      have hsame : ((List.range i).any fun k => rightS (spt m k) && (decide ((spt m k).x = (spt m i).x) && decide ((spt m k).y = (spt m i).y))) = sameB m i := by
        simp [sameB, hr1, sptP, ptS]
      rw [hsame]
      cases hs1 : sameB m i
      · have e1 := nmR_no (p := sameB m) (n := i) hs1
        simp [hw]
        refine ⟨by omega, ⟨by omega, by omega⟩, i + 1, by omega, by omega, ?_⟩
        simp [chkL1_eq, mshC_eq, ← e1, ← e2, e3, e4, ← boR_eq, ptD, sptP, ptS]
      · have e1 := nmR_yes (p := sameB m) (n := i) hs1
        simp [hw]
        refine ⟨by have := fil_le (sameB m) i; omega, by omega, ⟨by omega, by omega⟩, i + 1, by omega, by omega, ?_⟩
        simp [chkL1_eq, mshC_eq, e1, ← e2, e3, e4, ← boR_eq, ptD, sptP, ptS]
  · have hi2 : i = m.s.length := by omega
    subst hi2
    refine loop_of Nat (fun i => chkL2 m i) (fun i => i ≤ m.f.length) (fun i => m.f.length - i) 0 (by simp) (by simp [chkL2_eq, mshC_eq, fil_zero, tkKs, tkVs]) ?_
    clear hi g1 kr kp ksm
    rintro i hi
    simp [chkL2_eq, mshC_eq]
    refine brB_of (fun g1 => ?_) (fun g1 => ?_) <;> simp at g1 <;> simp [g1]
    · have hw : IntKind.wrap .i64 ((i : Int) + 1) = ((i + 1 : Nat) : Int) := wrap_i64 (by omega) (by omega)
      have kc := mcorners_c hC (fce m i)
      have k1 := hasInt_c hC (b := false) (xs := [(fce m i).a, (fce m i).b, (fce m i).c]) (g := 306) (cs := [.ptr (mshC m), .ptr [.sl (boR (farR m m.s.length))]]) (fun k => !(inR1 m.s.length k && rightS (spt m k.toNat))) (by simp) (fun x _ => chk1_c hC m x (by omega))
      simp only [mshC_eq, fceC_eq] at kc k1
      simp at k1
      simp [fceC_eq]
      refine callW_of kc (.inl rfl) ?_
      simp [chunks]
      obtain ⟨v, hv⟩ : ∃ v, v = (!inR1 m.s.length (fce m i).a || !rightS (spt m (fce m i).a.toNat) || (!inR1 m.s.length (fce m i).b || !rightS (spt m (fce m i).b.toNat) || (!inR1 m.s.length (fce m i).c || !rightS (spt m (fce m i).c.toNat)))) := ⟨_, rfl⟩
      rw [← hv] at k1
      refine callW_of k1 (.inl rfl) ?_
      have E : badB m i = !(okF m (fce m i)) := rfl
      have E2 : okF m (fce m i) = (okc m (fce m i).a (fce m i).b && okc m (fce m i).b (fce m i).c && okc m (fce m i).c (fce m i).a && decide (0 ≤ (fce m i).k) && decide ((fce m i).k < 16)) := rfl
      have E3 : ∀ a b : Int, okc m a b = (inR1 m.s.length a && decide (a ≠ b) && rightS (spt m a.toNat)) := fun a b => rfl
      have bad : badB m i = true → nmR (fil (badB m) i) ++ [[D.int .i64 i]] = nmR (fil (badB m) (i + 1)) ∧ nmR (fil (flatB m) i) = nmR (fil (flatB m) (i + 1)) ∧ nmR (fil (sideB m) i) = nmR (fil (sideB m) (i + 1)) ∧ nmR (fil (overB m) i) = nmR (fil (overB m) (i + 1)) ∧ fil (sndB m) (i + 1) = fil (sndB m) i ∧ tkKs m (i + 1) = tkKs m i ∧ tkVs m (i + 1) = tkVs m i := fun h => by
        have h0 : okF m (fce m i) = false := by rw [E] at h; simpa using h
        have h1 : sndB m i = false := by simp [sndB, h0]
        exact ⟨nmR_yes h, nmR_no (by simp [flatB, h0]), nmR_no (by simp [sideB, h1]), nmR_no (by simp [overB, h1]), fil_no h1, by simp [tkKs, h1], by simp [tkVs, h1]⟩
      cases v
      rotate_left
      · obtain ⟨e1, e2, e3, e4, e5, e6, e7⟩ := bad (by
          rw [E, E2, E3, E3, E3]
          revert hv
          cases inR1 m.s.length (fce m i).a <;> cases rightS (spt m (fce m i).a.toNat) <;> cases inR1 m.s.length (fce m i).b <;> cases rightS (spt m (fce m i).b.toNat) <;> cases inR1 m.s.length (fce m i).c <;> cases rightS (spt m (fce m i).c.toNat) <;> simp)
        simp [hw]
        refine ⟨by have := fil_le (badB m) i; omega, i + 1, by omega, by omega, ?_⟩
        simp [chkL2_eq, mshC_eq, e1, ← e2, ← e3, ← e4, e5, e6, e7]
      by_cases c1 : (fce m i).a = (fce m i).b
      · obtain ⟨e1, e2, e3, e4, e5, e6, e7⟩ := bad (by
          rw [E, E2, E3, E3, E3]
          rw [decide_eq_false (show ¬ (fce m i).a ≠ (fce m i).b by omega)]; simp)
        simp [c1, hw]
        refine ⟨by have := fil_le (badB m) i; omega, i + 1, by omega, by omega, ?_⟩
        simp [chkL2_eq, mshC_eq, e1, ← e2, ← e3, ← e4, e5, e6, e7]
      by_cases c2 : (fce m i).b = (fce m i).c
      · obtain ⟨e1, e2, e3, e4, e5, e6, e7⟩ := bad (by
          rw [E, E2, E3, E3, E3]
          rw [decide_eq_false (show ¬ (fce m i).b ≠ (fce m i).c by omega)]; simp)
        simp [(show ¬ (fce m i).a = (fce m i).c by rw [← c2]; exact c1), c2, hw]
        refine ⟨by have := fil_le (badB m) i; omega, i + 1, by omega, by omega, ?_⟩
        simp [chkL2_eq, mshC_eq, e1, ← e2, ← e3, ← e4, e5, e6, e7]
      by_cases c3 : (fce m i).c = (fce m i).a
      · obtain ⟨e1, e2, e3, e4, e5, e6, e7⟩ := bad (by
          rw [E, E2, E3, E3, E3]
          rw [decide_eq_false (show ¬ (fce m i).c ≠ (fce m i).a by omega)]; simp)
        simp [c1, c2, hw]
        refine brB_of (fun _ => ?_) (fun h => by simp [c3] at h)
        simp [hw]
        refine ⟨by have := fil_le (badB m) i; omega, i + 1, by omega, by omega, ?_⟩
        simp [chkL2_eq, mshC_eq, e1, ← e2, ← e3, ← e4, e5, e6, e7]
      have c3' : ¬ (fce m i).a = (fce m i).c := fun h => c3 h.symm
      by_cases c4 : (fce m i).k < 0
      · obtain ⟨e1, e2, e3, e4, e5, e6, e7⟩ := bad (by
          rw [E, E2, E3, E3, E3]
          rw [decide_eq_false (show ¬ 0 ≤ (fce m i).k by omega)]; simp)
        simp [c1, c2, c3, c3', c4, hw]
        refine ⟨by have := fil_le (badB m) i; omega, i + 1, by omega, by omega, ?_⟩
        simp [chkL2_eq, mshC_eq, e1, ← e2, ← e3, ← e4, e5, e6, e7]
      by_cases c5 : 16 ≤ (fce m i).k
      · obtain ⟨e1, e2, e3, e4, e5, e6, e7⟩ := bad (by
          rw [E, E2, E3, E3, E3]
          rw [decide_eq_false (show ¬ (fce m i).k < 16 by omega)]; simp)
        simp [c1, c2, c3, c3', c4, c5, hw]
        refine ⟨by have := fil_le (badB m) i; omega, i + 1, by omega, by omega, ?_⟩
        simp [chkL2_eq, mshC_eq, e1, ← e2, ← e3, ← e4, e5, e6, e7]
      have ok : okF m (fce m i) = true := by
        rw [E2, E3, E3, E3]
        simp only [Bool.and_eq_true, decide_eq_true_eq]
        have h := hv.symm
        simp only [Bool.or_eq_false_iff, Bool.not_eq_false'] at h
        exact ⟨⟨⟨⟨⟨⟨h.1.1, c1⟩, h.1.2⟩, ⟨h.2.1.1, c2⟩, h.2.1.2⟩, ⟨h.2.2.1, c3⟩, h.2.2.2⟩, by omega⟩, by omega⟩
      have nbad : badB m i = false := by rw [E, ok]; rfl
      have b1 := nmR_no nbad
      have hT := okF_okT ok
      have kt := mtri_c hC m (fce m i) (okF_inS ok)
      have kn : C 308 [.agg (ptD (triF m (fce m i)).1), .agg (ptD (triF m (fce m i)).2.1), .agg (ptD (triF m (fce m i)).2.2)] (.int .i64 (turnT (triF m (fce m i)))) [] := by
        have h := hT
        simp only [okT, Bool.and_eq_true] at h
        exact mturn_c hC h.1.1 h.1.2 h.2
      have ks := fun k h => mside_c hC (fce m i) k h
      have ks0 := ks 0 (by omega)
      have ks1 := ks 1 (by omega)
      have ks2 := ks 2 (by omega)
      have kg := fun j => tk_get m (crn (fce m i) j) (crn (fce m i) (j + 1)) i
      have kg : ∀ j, (mpGet (tkKs m i) (tkVs m i) (.agg [.int .i64 (crn (fce m i) j), .int .i64 (crn (fce m i) (j + 1))])).getD (.bool false) = .bool (hasS m i j) := kg
      have kg0 := kg 0
      have kg1 := kg 1
      have kg2 := kg 2
      simp [c1, c2, c3, c3', c4, c5]
      simp only [mshC_eq, fceC_eq] at kt
      refine callW_of kt (.inl rfl) ?_
      simp [triD]
      simp only [ptD] at kn
      refine callW_of kn (.inl rfl) ?_
      simp
      refine brB_of (fun d1 => ?_) (fun d1 => ?_) <;> simp at d1
      · have hfl : flatB m i = true := by simp [flatB, ok, d1]
        have hsn : sndB m i = false := by simp [sndB, ok]; omega
        have e1 := nmR_yes hfl
        have e2 := nmR_no (p := sideB m) (n := i) (by simp [sideB, hsn])
        have e3 := nmR_no (p := overB m) (n := i) (by simp [overB, hsn])
        have e5 := fil_no hsn
        have e6 : tkKs m (i + 1) = tkKs m i := by simp [tkKs, hsn]
        have e7 : tkVs m (i + 1) = tkVs m i := by simp [tkVs, hsn]
        simp [d1, hw]
        refine ⟨by have := fil_le (flatB m) i; omega, i + 1, by omega, by omega, ?_⟩
        simp [chkL2_eq, mshC_eq, e1, ← e2, ← e3, ← b1, e5, e6, e7]
      · have hfl : flatB m i = false := by simp [flatB, ok]; omega
        have hsn : sndB m i = true := by simp [sndB, ok, d1]
        have b2 := nmR_no hfl
        have hsd := sideB_eq hsn
        simp only [fceC_eq] at ks ks0 ks1 ks2
        simp at ks0 ks1 ks2 kg0 kg1 kg2
        simp [Int.not_le.2 d1]
        refine callW_of ks0 (.inl rfl) ?_
        simp [kg0]
        have cb := fun j => crn_bd (okF_inS ok) j
        have cb0 := cb 0
        have cb1 := cb 1
        have cb2 := cb 2
        have cb3 := cb 3
        refine ⟨⟨by omega, by omega⟩, ?_⟩
        have yes : sideB m i = true → nmR (fil (sideB m) i) ++ [[D.int .i64 i]] = nmR (fil (sideB m) (i + 1)) := nmR_yes
        have nos : sideB m i = false → nmR (fil (sideB m) i) = nmR (fil (sideB m) (i + 1)) := nmR_no
        have lsd := fil_le (sideB m) i
        have kT := hasTri_c hC (b := false) (xs := (fil (sndB m) i).map fun k => triF m (fce m k)) (g := 310) (cs := [.ptr (triD (triF m (fce m i)))]) (fun o => ovT (triF m (fce m i)) o) (by have := fil_le (sndB m) i; simp; omega) (fun x hx => by
          obtain ⟨k, hk, rfl⟩ := List.mem_map.1 hx
          have hk := (fil_lt hk).2
          simp only [sndB, Bool.and_eq_true] at hk
          exact chk2_c hC hT (okF_okT hk.1))
        rw [← trR_eq, List.any_map] at kT
        have hov : (fil (sndB m) i).any ((fun o => ovT (triF m (fce m i)) o) ∘ fun k => triF m (fce m k)) = overB m i := by
          rw [fil, List.any_filter, overB, hsn]
          rfl
        rw [hov] at kT
        rw [slx_false] at kT
        have tl := tkKs_len m i
        have hml : maxLen = 9223372036854775807 := rfl
        have e5 := trR_yes hsn
        have e6 : tkKs m (i + 1) = sdK (fce m i) 3 ++ tkKs m i := by simp [tkKs, hsn]
        have e7 : tkVs m (i + 1) = .bool true :: .bool true :: .bool true :: tkVs m i := by
          rw [tkVs, if_pos hsn]; rfl
        have e8 : (fil (sndB m) (i + 1)).length = (fil (sndB m) i).length + 1 := by rw [fil_yes hsn]; simp
        have l8 := fil_le (sndB m) i
        have lov := fil_le (overB m) i
        have kT := hasTri_c hC (b := false) (xs := (fil (sndB m) i).map fun k => triF m (fce m k)) (g := 310) (cs := [.ptr (triD (triF m (fce m i)))]) (fun o => ovT (triF m (fce m i)) o) (by have := fil_le (sndB m) i; simp; omega) (fun x hx => by
          obtain ⟨k, hk, rfl⟩ := List.mem_map.1 hx
          have hk := (fil_lt hk).2
          simp only [sndB, Bool.and_eq_true] at hk
          exact chk2_c hC hT (okF_okT hk.1))
        rw [← trR_eq, List.any_map] at kT
        have hov : (fil (sndB m) i).any ((fun o => ovT (triF m (fce m i)) o) ∘ fun k => triF m (fce m k)) = overB m i := by
          rw [fil, List.any_filter, overB, hsn]
          rfl
        rw [hov] at kT
        rw [slx_false] at kT
        have tl := tkKs_len m i
        have hml : maxLen = 9223372036854775807 := rfl
        have e5 := trR_yes hsn
        have e6 : tkKs m (i + 1) = sdK (fce m i) 3 ++ tkKs m i := by simp [tkKs, hsn]
        have e7 : tkVs m (i + 1) = .bool true :: .bool true :: .bool true :: tkVs m i := by
          rw [tkVs, if_pos hsn]; rfl
        have e8 : (fil (sndB m) (i + 1)).length = (fil (sndB m) i).length + 1 := by rw [fil_yes hsn]; simp
        have l8 := fil_le (sndB m) i
        have lov := fil_le (overB m) i
        have kT := hasTri_c hC (b := false) (xs := (fil (sndB m) i).map fun k => triF m (fce m k)) (g := 310) (cs := [.ptr (triD (triF m (fce m i)))]) (fun o => ovT (triF m (fce m i)) o) (by have := fil_le (sndB m) i; simp; omega) (fun x hx => by
          obtain ⟨k, hk, rfl⟩ := List.mem_map.1 hx
          have hk := (fil_lt hk).2
          simp only [sndB, Bool.and_eq_true] at hk
          exact chk2_c hC hT (okF_okT hk.1))
        rw [← trR_eq, List.any_map] at kT
        have hov : (fil (sndB m) i).any ((fun o => ovT (triF m (fce m i)) o) ∘ fun k => triF m (fce m k)) = overB m i := by
          rw [fil, List.any_filter, overB, hsn]
          rfl
        rw [hov] at kT
        rw [slx_false] at kT
        have tl := tkKs_len m i
        have hml : maxLen = 9223372036854775807 := rfl
        have e5 := trR_yes hsn
        have e6 : tkKs m (i + 1) = sdK (fce m i) 3 ++ tkKs m i := by simp [tkKs, hsn]
        have e7 : tkVs m (i + 1) = .bool true :: .bool true :: .bool true :: tkVs m i := by
          rw [tkVs, if_pos hsn]; rfl
        have e8 : (fil (sndB m) (i + 1)).length = (fil (sndB m) i).length + 1 := by rw [fil_yes hsn]; simp
        have l8 := fil_le (sndB m) i
        have lov := fil_le (overB m) i
        have kT := hasTri_c hC (b := false) (xs := (fil (sndB m) i).map fun k => triF m (fce m k)) (g := 310) (cs := [.ptr (triD (triF m (fce m i)))]) (fun o => ovT (triF m (fce m i)) o) (by have := fil_le (sndB m) i; simp; omega) (fun x hx => by
          obtain ⟨k, hk, rfl⟩ := List.mem_map.1 hx
          have hk := (fil_lt hk).2
          simp only [sndB, Bool.and_eq_true] at hk
          exact chk2_c hC hT (okF_okT hk.1))
        rw [← trR_eq, List.any_map] at kT
        have hov : (fil (sndB m) i).any ((fun o => ovT (triF m (fce m i)) o) ∘ fun k => triF m (fce m k)) = overB m i := by
          rw [fil, List.any_filter, overB, hsn]
          rfl
        rw [hov] at kT
        rw [slx_false] at kT
        have tl := tkKs_len m i
        have hml : maxLen = 9223372036854775807 := rfl
        have e5 := trR_yes hsn
        have e6 : tkKs m (i + 1) = sdK (fce m i) 3 ++ tkKs m i := by simp [tkKs, hsn]
        have e7 : tkVs m (i + 1) = .bool true :: .bool true :: .bool true :: tkVs m i := by
          rw [tkVs, if_pos hsn]; rfl
        have e8 : (fil (sndB m) (i + 1)).length = (fil (sndB m) i).length + 1 := by rw [fil_yes hsn]; simp
        have l8 := fil_le (sndB m) i
        have lov := fil_le (overB m) i
        have kT := hasTri_c hC (b := false) (xs := (fil (sndB m) i).map fun k => triF m (fce m k)) (g := 310) (cs := [.ptr (triD (triF m (fce m i)))]) (fun o => ovT (triF m (fce m i)) o) (by have := fil_le (sndB m) i; simp; omega) (fun x hx => by
          obtain ⟨k, hk, rfl⟩ := List.mem_map.1 hx
          have hk := (fil_lt hk).2
          simp only [sndB, Bool.and_eq_true] at hk
          exact chk2_c hC hT (okF_okT hk.1))
        rw [← trR_eq, List.any_map] at kT
        have hov : (fil (sndB m) i).any ((fun o => ovT (triF m (fce m i)) o) ∘ fun k => triF m (fce m k)) = overB m i := by
          rw [fil, List.any_filter, overB, hsn]
          rfl
        rw [hov] at kT
        rw [slx_false] at kT
        have tl := tkKs_len m i
        have hml : maxLen = 9223372036854775807 := rfl
        have e5 := trR_yes hsn
        have e6 : tkKs m (i + 1) = sdK (fce m i) 3 ++ tkKs m i := by simp [tkKs, hsn]
        have e7 : tkVs m (i + 1) = .bool true :: .bool true :: .bool true :: tkVs m i := by
          rw [tkVs, if_pos hsn]; rfl
        have e8 : (fil (sndB m) (i + 1)).length = (fil (sndB m) i).length + 1 := by rw [fil_yes hsn]; simp
        have l8 := fil_le (sndB m) i
        have lov := fil_le (overB m) i
        have kT := hasTri_c hC (b := false) (xs := (fil (sndB m) i).map fun k => triF m (fce m k)) (g := 310) (cs := [.ptr (triD (triF m (fce m i)))]) (fun o => ovT (triF m (fce m i)) o) (by have := fil_le (sndB m) i; simp; omega) (fun x hx => by
          obtain ⟨k, hk, rfl⟩ := List.mem_map.1 hx
          have hk := (fil_lt hk).2
          simp only [sndB, Bool.and_eq_true] at hk
          exact chk2_c hC hT (okF_okT hk.1))
        rw [← trR_eq, List.any_map] at kT
        have hov : (fil (sndB m) i).any ((fun o => ovT (triF m (fce m i)) o) ∘ fun k => triF m (fce m k)) = overB m i := by
          rw [fil, List.any_filter, overB, hsn]
          rfl
        rw [hov] at kT
        rw [slx_false] at kT
        have tl := tkKs_len m i
        have hml : maxLen = 9223372036854775807 := rfl
        have e5 := trR_yes hsn
        have e6 : tkKs m (i + 1) = sdK (fce m i) 3 ++ tkKs m i := by simp [tkKs, hsn]
        have e7 : tkVs m (i + 1) = .bool true :: .bool true :: .bool true :: tkVs m i := by
          rw [tkVs, if_pos hsn]; rfl
        have e8 : (fil (sndB m) (i + 1)).length = (fil (sndB m) i).length + 1 := by rw [fil_yes hsn]; simp
        have l8 := fil_le (sndB m) i
        have lov := fil_le (overB m) i
        have kT := hasTri_c hC (b := false) (xs := (fil (sndB m) i).map fun k => triF m (fce m k)) (g := 310) (cs := [.ptr (triD (triF m (fce m i)))]) (fun o => ovT (triF m (fce m i)) o) (by have := fil_le (sndB m) i; simp; omega) (fun x hx => by
          obtain ⟨k, hk, rfl⟩ := List.mem_map.1 hx
          have hk := (fil_lt hk).2
          simp only [sndB, Bool.and_eq_true] at hk
          exact chk2_c hC hT (okF_okT hk.1))
        rw [← trR_eq, List.any_map] at kT
        have hov : (fil (sndB m) i).any ((fun o => ovT (triF m (fce m i)) o) ∘ fun k => triF m (fce m k)) = overB m i := by
          rw [fil, List.any_filter, overB, hsn]
          rfl
        rw [hov] at kT
        rw [slx_false] at kT
        have tl := tkKs_len m i
        have hml : maxLen = 9223372036854775807 := rfl
        have e5 := trR_yes hsn
        have e6 : tkKs m (i + 1) = sdK (fce m i) 3 ++ tkKs m i := by simp [tkKs, hsn]
        have e7 : tkVs m (i + 1) = .bool true :: .bool true :: .bool true :: tkVs m i := by
          rw [tkVs, if_pos hsn]; rfl
        have e8 : (fil (sndB m) (i + 1)).length = (fil (sndB m) i).length + 1 := by rw [fil_yes hsn]; simp
        have l8 := fil_le (sndB m) i
        have lov := fil_le (overB m) i
        have kT := hasTri_c hC (b := false) (xs := (fil (sndB m) i).map fun k => triF m (fce m k)) (g := 310) (cs := [.ptr (triD (triF m (fce m i)))]) (fun o => ovT (triF m (fce m i)) o) (by have := fil_le (sndB m) i; simp; omega) (fun x hx => by
          obtain ⟨k, hk, rfl⟩ := List.mem_map.1 hx
          have hk := (fil_lt hk).2
          simp only [sndB, Bool.and_eq_true] at hk
          exact chk2_c hC hT (okF_okT hk.1))
        rw [← trR_eq, List.any_map] at kT
        have hov : (fil (sndB m) i).any ((fun o => ovT (triF m (fce m i)) o) ∘ fun k => triF m (fce m k)) = overB m i := by
          rw [fil, List.any_filter, overB, hsn]
          rfl
        rw [hov] at kT
        rw [slx_false] at kT
        have tl := tkKs_len m i
        have hml : maxLen = 9223372036854775807 := rfl
        have e5 := trR_yes hsn
        have e6 : tkKs m (i + 1) = sdK (fce m i) 3 ++ tkKs m i := by simp [tkKs, hsn]
        have e7 : tkVs m (i + 1) = .bool true :: .bool true :: .bool true :: tkVs m i := by
          rw [tkVs, if_pos hsn]; rfl
        have e8 : (fil (sndB m) (i + 1)).length = (fil (sndB m) i).length + 1 := by rw [fil_yes hsn]; simp
        have l8 := fil_le (sndB m) i
        have lov := fil_le (overB m) i
        have kT := hasTri_c hC (b := false) (xs := (fil (sndB m) i).map fun k => triF m (fce m k)) (g := 310) (cs := [.ptr (triD (triF m (fce m i)))]) (fun o => ovT (triF m (fce m i)) o) (by have := fil_le (sndB m) i; simp; omega) (fun x hx => by
          obtain ⟨k, hk, rfl⟩ := List.mem_map.1 hx
          have hk := (fil_lt hk).2
          simp only [sndB, Bool.and_eq_true] at hk
          exact chk2_c hC hT (okF_okT hk.1))
        rw [← trR_eq, List.any_map] at kT
        have hov : (fil (sndB m) i).any ((fun o => ovT (triF m (fce m i)) o) ∘ fun k => triF m (fce m k)) = overB m i := by
          rw [fil, List.any_filter, overB, hsn]
          rfl
        rw [hov] at kT
        rw [slx_false] at kT
        have tl := tkKs_len m i
        have hml : maxLen = 9223372036854775807 := rfl
        have e5 := trR_yes hsn
        have e6 : tkKs m (i + 1) = sdK (fce m i) 3 ++ tkKs m i := by simp [tkKs, hsn]
        have e7 : tkVs m (i + 1) = .bool true :: .bool true :: .bool true :: tkVs m i := by
          rw [tkVs, if_pos hsn]; rfl
        have e8 : (fil (sndB m) (i + 1)).length = (fil (sndB m) i).length + 1 := by rw [fil_yes hsn]; simp
        have l8 := fil_le (sndB m) i
        have lov := fil_le (overB m) i
        have kT := hasTri_c hC (b := false) (xs := (fil (sndB m) i).map fun k => triF m (fce m k)) (g := 310) (cs := [.ptr (triD (triF m (fce m i)))]) (fun o => ovT (triF m (fce m i)) o) (by have := fil_le (sndB m) i; simp; omega) (fun x hx => by
          obtain ⟨k, hk, rfl⟩ := List.mem_map.1 hx
          have hk := (fil_lt hk).2
          simp only [sndB, Bool.and_eq_true] at hk
          exact chk2_c hC hT (okF_okT hk.1))
        rw [← trR_eq, List.any_map] at kT
        have hov : (fil (sndB m) i).any ((fun o => ovT (triF m (fce m i)) o) ∘ fun k => triF m (fce m k)) = overB m i := by
          rw [fil, List.any_filter, overB, hsn]
          rfl
        rw [hov] at kT
        rw [slx_false] at kT
        have tl := tkKs_len m i
        have hml : maxLen = 9223372036854775807 := rfl
        have e5 := trR_yes hsn
        have e6 : tkKs m (i + 1) = sdK (fce m i) 3 ++ tkKs m i := by simp [tkKs, hsn]
        have e7 : tkVs m (i + 1) = .bool true :: .bool true :: .bool true :: tkVs m i := by
          rw [tkVs, if_pos hsn]; rfl
        have e8 : (fil (sndB m) (i + 1)).length = (fil (sndB m) i).length + 1 := by rw [fil_yes hsn]; simp
        have l8 := fil_le (sndB m) i
        have lov := fil_le (overB m) i
        have kT := hasTri_c hC (b := false) (xs := (fil (sndB m) i).map fun k => triF m (fce m k)) (g := 310) (cs := [.ptr (triD (triF m (fce m i)))]) (fun o => ovT (triF m (fce m i)) o) (by have := fil_le (sndB m) i; simp; omega) (fun x hx => by
          obtain ⟨k, hk, rfl⟩ := List.mem_map.1 hx
          have hk := (fil_lt hk).2
          simp only [sndB, Bool.and_eq_true] at hk
          exact chk2_c hC hT (okF_okT hk.1))
        rw [← trR_eq, List.any_map] at kT
        have hov : (fil (sndB m) i).any ((fun o => ovT (triF m (fce m i)) o) ∘ fun k => triF m (fce m k)) = overB m i := by
          rw [fil, List.any_filter, overB, hsn]
          rfl
        rw [hov] at kT
        rw [slx_false] at kT
        have tl := tkKs_len m i
        have hml : maxLen = 9223372036854775807 := rfl
        have e5 := trR_yes hsn
        have e6 : tkKs m (i + 1) = sdK (fce m i) 3 ++ tkKs m i := by simp [tkKs, hsn]
        have e7 : tkVs m (i + 1) = .bool true :: .bool true :: .bool true :: tkVs m i := by
          rw [tkVs, if_pos hsn]; rfl
        have e8 : (fil (sndB m) (i + 1)).length = (fil (sndB m) i).length + 1 := by rw [fil_yes hsn]; simp
        have l8 := fil_le (sndB m) i
        have lov := fil_le (overB m) i
        have kT := hasTri_c hC (b := false) (xs := (fil (sndB m) i).map fun k => triF m (fce m k)) (g := 310) (cs := [.ptr (triD (triF m (fce m i)))]) (fun o => ovT (triF m (fce m i)) o) (by have := fil_le (sndB m) i; simp; omega) (fun x hx => by
          obtain ⟨k, hk, rfl⟩ := List.mem_map.1 hx
          have hk := (fil_lt hk).2
          simp only [sndB, Bool.and_eq_true] at hk
          exact chk2_c hC hT (okF_okT hk.1))
        rw [← trR_eq, List.any_map] at kT
        have hov : (fil (sndB m) i).any ((fun o => ovT (triF m (fce m i)) o) ∘ fun k => triF m (fce m k)) = overB m i := by
          rw [fil, List.any_filter, overB, hsn]
          rfl
        rw [hov] at kT
        rw [slx_false] at kT
        have tl := tkKs_len m i
        have hml : maxLen = 9223372036854775807 := rfl
        have e5 := trR_yes hsn
        have e6 : tkKs m (i + 1) = sdK (fce m i) 3 ++ tkKs m i := by simp [tkKs, hsn]
        have e7 : tkVs m (i + 1) = .bool true :: .bool true :: .bool true :: tkVs m i := by
          rw [tkVs, if_pos hsn]; rfl
        have e8 : (fil (sndB m) (i + 1)).length = (fil (sndB m) i).length + 1 := by rw [fil_yes hsn]; simp
        have l8 := fil_le (sndB m) i
        have lov := fil_le (overB m) i
        rcases (by cases hasS m i 0 <;> cases hasS m i 1 <;> cases hasS m i 2 <;> simp : hasS m i 0 = true ∨ (hasS m i 0 = false ∧ hasS m i 1 = true) ∨ (hasS m i 0 = false ∧ hasS m i 1 = false ∧ hasS m i 2 = true) ∨ (hasS m i 0 = false ∧ hasS m i 1 = false ∧ hasS m i 2 = false)) with h0 | ⟨h0, h1⟩ | ⟨h0, h1, h2⟩ | ⟨h0, h1, h2⟩
        have y := yes (by rw [hsd, h0]; rfl)
        simp [h0]
        refine ⟨by omega, ?_⟩
        rw [y]
        refine loop_of Nat (fun k => chkL3 m i k) (fun k => k ≤ 3) (fun k => 3 - k) 0 (by simp) (by simp [chkL3_eq, mshC_eq, fceC_eq, triD, sdK]) ?_
        rotate_left
        have y := yes (by rw [hsd, h0, h1]; rfl)
        simp [h0]
        refine callW_of ks1 (.inl rfl) ?_
        simp [kg1, h1]
        refine ⟨⟨by omega, by omega⟩, by omega, ?_⟩
        rw [y]
        refine loop_of Nat (fun k => chkL3 m i k) (fun k => k ≤ 3) (fun k => 3 - k) 0 (by simp) (by simp [chkL3_eq, mshC_eq, fceC_eq, triD, sdK]) ?_
        rotate_left
        have y := yes (by rw [hsd, h0, h1, h2]; rfl)
        simp [h0]
        refine callW_of ks1 (.inl rfl) ?_
        simp [kg1, h1]
        refine ⟨⟨by omega, by omega⟩, ?_⟩
        refine callW_of ks2 (.inl rfl) ?_
        simp [kg2, h2]
        refine ⟨⟨by omega, by omega⟩, by omega, ?_⟩
        rw [y]
        refine loop_of Nat (fun k => chkL3 m i k) (fun k => k ≤ 3) (fun k => 3 - k) 0 (by simp) (by simp [chkL3_eq, mshC_eq, fceC_eq, triD, sdK]) ?_
        rotate_left
        have y := nos (by rw [hsd, h0, h1, h2]; rfl)
        simp [h0]
        refine callW_of ks1 (.inl rfl) ?_
        simp [kg1, h1]
        refine ⟨⟨by omega, by omega⟩, ?_⟩
        refine callW_of ks2 (.inl rfl) ?_
        simp [kg2, h2]
        refine ⟨⟨by omega, by omega⟩, ?_⟩
        rw [y]
        refine loop_of Nat (fun k => chkL3 m i k) (fun k => k ≤ 3) (fun k => 3 - k) 0 (by simp) (by simp [chkL3_eq, mshC_eq, fceC_eq, triD, sdK]) ?_
        rotate_left
        all_goals
          clear y
          rintro k hk
          simp [chkL3_eq, mshC_eq, fceC_eq, triD]
          refine brB_of (fun g2 => ?_) (fun g2 => ?_) <;> simp at g2 <;> simp [g2]
          · have hw2 : IntKind.wrap .i64 ((k : Int) + 1) = ((k + 1 : Nat) : Int) := wrap_i64 (by omega) (by omega)
            have ck := cb k
            have ck1 := cb (k + 1)
            refine callW_of (ks k (by omega)) (.inl rfl) ?_
            simp [hw2, sdK_len]
            refine ⟨by omega, ⟨⟨by omega, by omega⟩, by omega, by omega⟩, k + 1, by omega, by omega, ?_⟩
            simp [chkL3_eq, mshC_eq, fceC_eq, triD, sdK, List.replicate_succ]
          · have hk3 : k = 3 := by omega
            subst hk3
            simp only [triD] at kT
            simp
            refine callW_of kT (.inl rfl) ?_
            simp
            simp only [triD] at e5
            cases hov2 : overB m i
            · have e9 := nmR_no hov2
              simp [hw]
              refine ⟨by omega, i + 1, by omega, by omega, ?_⟩
              simp [chkL2_eq, mshC_eq, ← b1, ← b2, ← e9, e5, e6, e7, e8]
            · have e9 := nmR_yes hov2
              simp [hw]
              refine ⟨by omega, by omega, i + 1, by omega, by omega, ?_⟩
              simp [chkL2_eq, mshC_eq, ← b1, ← b2, e9, e5, e6, e7, e8]
    · have hi2 : i = m.f.length := by omega
      subst hi2
      have bd : ∀ (p : Nat → Bool) (n : Nat), n ≤ 100 → (fil p n).length ≤ 100 ∧ ∀ x ∈ fil p n, x < 100 := fun p n hn => ⟨by have := fil_le p n; omega, fun x hx => by have := (fil_lt hx).1; omega⟩
      have q1 := bd (farB m) _ hs
      have q2 := bd (sameB m) _ hs
      have q3 := bd (badB m) _ hf
      have q4 := bd (flatB m) _ hf
      have q5 := bd (sideB m) _ hf
      have q6 := bd (overB m) _ hf
      have hLL : LL m = [[], fil (farB m) m.s.length, fil (sameB m) m.s.length, fil (badB m) m.f.length, fil (flatB m) m.f.length, fil (sideB m) m.f.length, fil (overB m) m.f.length] := rfl
      rw [hLL]
      clear hLL bd
      generalize fil (farB m) m.s.length = L1 at *
      generalize fil (sameB m) m.s.length = L2 at *
      generalize fil (badB m) m.f.length = L3 at *
      generalize fil (flatB m) m.f.length = L4 at *
      generalize fil (sideB m) m.f.length = L5 at *
      generalize fil (overB m) m.f.length = L6 at *
      obtain ⟨AG, hAG⟩ : ∃ x, x = agx6 L1 L2 L3 L4 L5 L6 := ⟨_, rfl⟩
      obtain ⟨BK, hBK⟩ : ∃ x, x = blk6 L1 L2 L3 L4 L5 L6 := ⟨_, rfl⟩
      obtain ⟨U, hU⟩ : ∃ U : Nat → List (Int × List UInt8), U = fun k => outF dec 0 (([([] : List Nat), L1, L2, L3, L4, L5, L6]).take k) := ⟨_, rfl⟩
      have hU7 : U 7 = outF dec 0 [[], L1, L2, L3, L4, L5, L6] := by rw [hU]; rfl
      have hU0 : U 0 = [] := by rw [hU]; rfl
      have bdU : ∀ k (L : List Nat), L.length ≤ 100 → (U k).length ≤ 100 * k → (U k ++ L.map fun i => ((k : Int), dec i)).length ≤ 100 * (k + 1) := fun k L h1 h2 => by simp; omega
      have hU0s : U 1 = U 0 ++ (([] : List Nat)).map fun i => ((0 : Int), dec i) := by
        rw [hU]; show outF dec 0 (([([] : List Nat), L1, L2, L3, L4, L5, L6]).take 0 ++ [([] : List Nat)]) = _
        rw [outF_app]; simp [outF]
      have hU1s : U 2 = U 1 ++ (L1).map fun i => ((1 : Int), dec i) := by
        rw [hU]; show outF dec 0 (([([] : List Nat), L1, L2, L3, L4, L5, L6]).take 1 ++ [L1]) = _
        rw [outF_app]; simp [outF]
      have hU2s : U 3 = U 2 ++ (L2).map fun i => ((2 : Int), dec i) := by
        rw [hU]; show outF dec 0 (([([] : List Nat), L1, L2, L3, L4, L5, L6]).take 2 ++ [L2]) = _
        rw [outF_app]; simp [outF]
      have hU3s : U 4 = U 3 ++ (L3).map fun i => ((3 : Int), dec i) := by
        rw [hU]; show outF dec 0 (([([] : List Nat), L1, L2, L3, L4, L5, L6]).take 3 ++ [L3]) = _
        rw [outF_app]; simp [outF]
      have hU4s : U 5 = U 4 ++ (L4).map fun i => ((4 : Int), dec i) := by
        rw [hU]; show outF dec 0 (([([] : List Nat), L1, L2, L3, L4, L5, L6]).take 4 ++ [L4]) = _
        rw [outF_app]; simp [outF]
      have hU5s : U 6 = U 5 ++ (L5).map fun i => ((5 : Int), dec i) := by
        rw [hU]; show outF dec 0 (([([] : List Nat), L1, L2, L3, L4, L5, L6]).take 5 ++ [L5]) = _
        rw [outF_app]; simp [outF]
      have hU6s : U 7 = U 6 ++ (L6).map fun i => ((6 : Int), dec i) := by
        rw [hU]; show outF dec 0 (([([] : List Nat), L1, L2, L3, L4, L5, L6]).take 6 ++ [L6]) = _
        rw [outF_app]; simp [outF]
      have lU0 : (U 0).length ≤ 0 := by rw [hU0]; simp
      have lU1 : (U 1).length ≤ 100 := by rw [hU0s]; simp; omega
      have lU2 : (U 2).length ≤ 200 := by rw [hU1s]; simp; omega
      have lU3 : (U 3).length ≤ 300 := by rw [hU2s]; simp; omega
      have lU4 : (U 4).length ≤ 400 := by rw [hU3s]; simp; omega
      have lU5 : (U 5).length ≤ 500 := by rw [hU4s]; simp; omega
      have lU6 : (U 6).length ≤ 600 := by rw [hU5s]; simp; omega
      rw [← hU7]
      refine loop_of Nat (fun k => [(17, .ref (.r 10272) 0 (U k).length), (10272, .blk 2 (fnR (U k))), (181, AG), (182, .int .i64 k), (10064, BK)]) (fun k => k ≤ 7) (fun k => 7 - k) 0 (by simp) (by simp [hU0, hAG, hBK, agx6_eq, blk6_eq]) ?_
      rintro k hk
      rcases (by omega : k = 0 ∨ k = 1 ∨ k = 2 ∨ k = 3 ∨ k = 4 ∨ k = 5 ∨ k = 6 ∨ k = 7) with rfl | rfl | rfl | rfl | rfl | rfl | rfl | rfl
      · simp [hAG, agx6_eq]
        refine loop_of Nat (fun j => [(17, .ref (.r 10272) 0 ((U 0).length + j)), (10272, .blk 2 (fnR (U 0 ++ tkD dec 0 ([] : List Nat) j))), (18, .int .i64 0), (181, AG), (182, .int .i64 0), (186, .ref (.n 10064 0 0) 0 (([] : List Nat)).length), (187, .int .i64 (([] : List Nat)).length), (188, .int .i64 j), (10064, BK)]) (fun j => j ≤ (([] : List Nat)).length) (fun j => (([] : List Nat)).length - j) 0 (by simp) (by simp [hAG, hBK, agx6_eq, blk6_eq, tkD_zero]) ?_
        rintro j hj
        simp [hAG, hBK, agx6_eq, blk6_eq]
        have hj0 : j = 0 := by simpa using hj
        subst hj0
        simp [w64_1, hAG, hBK, agx6_eq, blk6_eq]
        refine ⟨1, by omega, by omega, ?_⟩
        rw [hU0s]
        simp [tkD]
      · simp [hAG, agx6_eq]
        refine loop_of Nat (fun j => [(17, .ref (.r 10272) 0 ((U 1).length + j)), (10272, .blk 2 (fnR (U 1 ++ tkD dec 1 L1 j))), (18, .int .i64 1), (181, AG), (182, .int .i64 1), (186, .ref (.n 10064 0 1) 0 (L1).length), (187, .int .i64 (L1).length), (188, .int .i64 j), (10064, BK)]) (fun j => j ≤ (L1).length) (fun j => (L1).length - j) 0 (by simp) (by simp [hAG, hBK, agx6_eq, blk6_eq, tkD_zero]) ?_
        rintro j hj
        simp [hAG, hBK, agx6_eq, blk6_eq]
        refine brB_of (fun g3 => ?_) (fun g3 => ?_) <;> simp at g3 <;> simp [g3, hAG, hBK, agx6_eq, blk6_eq]
        · have hj2 : j < L1.length := by omega
          have hw3 : IntKind.wrap .i64 ((j : Int) + 1) = ((j + 1 : Nat) : Int) := wrap_i64 (by omega) (by omega)
          have hi := hI (L1[j]) (q1.2 _ (List.getElem_mem hj2))
          have ht := tkD_succ dec 1 L1 hj2
          have hl := tkD_len dec 1 L1 (Nat.le_of_lt hj2)
          rw [nmR_eq L1]
          try simp [hj2]
          refine callW_of hi (.inl rfl) ?_
          simp
          refine ⟨by omega, by omega, j + 1, by omega, by omega, by omega, ?_, ?_, hw3, ?_⟩
          · have e : (U 1).length + j = (U 1 ++ tkD dec 1 L1 j).length := by simp [hl]
            rw [e, fnR_take, fnR_add, ht, List.append_assoc]
          · rw [hAG, agx6_eq]
          · rw [hBK, blk6_eq]; simp only [nmR_eq]
        · have hj2 : j = L1.length := by omega
          subst hj2
          refine ⟨2, by omega, by omega, ?_⟩
          rw [hU1s, tkD_all]
          simp [hAG, hBK, agx6_eq, blk6_eq]
          decide
      · simp [hAG, agx6_eq]
        refine loop_of Nat (fun j => [(17, .ref (.r 10272) 0 ((U 2).length + j)), (10272, .blk 2 (fnR (U 2 ++ tkD dec 2 L2 j))), (18, .int .i64 2), (181, AG), (182, .int .i64 2), (186, .ref (.n 10064 0 2) 0 (L2).length), (187, .int .i64 (L2).length), (188, .int .i64 j), (10064, BK)]) (fun j => j ≤ (L2).length) (fun j => (L2).length - j) 0 (by simp) (by simp [hAG, hBK, agx6_eq, blk6_eq, tkD_zero]) ?_
        rintro j hj
        simp [hAG, hBK, agx6_eq, blk6_eq]
        refine brB_of (fun g3 => ?_) (fun g3 => ?_) <;> simp at g3 <;> simp [g3, hAG, hBK, agx6_eq, blk6_eq]
        · have hj2 : j < L2.length := by omega
          have hw3 : IntKind.wrap .i64 ((j : Int) + 1) = ((j + 1 : Nat) : Int) := wrap_i64 (by omega) (by omega)
          have hi := hI (L2[j]) (q2.2 _ (List.getElem_mem hj2))
          have ht := tkD_succ dec 2 L2 hj2
          have hl := tkD_len dec 2 L2 (Nat.le_of_lt hj2)
          rw [nmR_eq L2]
          try simp [hj2]
          refine callW_of hi (.inl rfl) ?_
          simp
          refine ⟨by omega, by omega, j + 1, by omega, by omega, by omega, ?_, ?_, hw3, ?_⟩
          · have e : (U 2).length + j = (U 2 ++ tkD dec 2 L2 j).length := by simp [hl]
            rw [e, fnR_take, fnR_add, ht, List.append_assoc]
          · rw [hAG, agx6_eq]
          · rw [hBK, blk6_eq]; simp only [nmR_eq]
        · have hj2 : j = L2.length := by omega
          subst hj2
          refine ⟨3, by omega, by omega, ?_⟩
          rw [hU2s, tkD_all]
          simp [hAG, hBK, agx6_eq, blk6_eq]
          decide
      · simp [hAG, agx6_eq]
        refine loop_of Nat (fun j => [(17, .ref (.r 10272) 0 ((U 3).length + j)), (10272, .blk 2 (fnR (U 3 ++ tkD dec 3 L3 j))), (18, .int .i64 3), (181, AG), (182, .int .i64 3), (186, .ref (.n 10064 0 3) 0 (L3).length), (187, .int .i64 (L3).length), (188, .int .i64 j), (10064, BK)]) (fun j => j ≤ (L3).length) (fun j => (L3).length - j) 0 (by simp) (by simp [hAG, hBK, agx6_eq, blk6_eq, tkD_zero]) ?_
        rintro j hj
        simp [hAG, hBK, agx6_eq, blk6_eq]
        refine brB_of (fun g3 => ?_) (fun g3 => ?_) <;> simp at g3 <;> simp [g3, hAG, hBK, agx6_eq, blk6_eq]
        · have hj2 : j < L3.length := by omega
          have hw3 : IntKind.wrap .i64 ((j : Int) + 1) = ((j + 1 : Nat) : Int) := wrap_i64 (by omega) (by omega)
          have hi := hI (L3[j]) (q3.2 _ (List.getElem_mem hj2))
          have ht := tkD_succ dec 3 L3 hj2
          have hl := tkD_len dec 3 L3 (Nat.le_of_lt hj2)
          rw [nmR_eq L3]
          try simp [hj2]
          refine callW_of hi (.inl rfl) ?_
          simp
          refine ⟨by omega, by omega, j + 1, by omega, by omega, by omega, ?_, ?_, hw3, ?_⟩
          · have e : (U 3).length + j = (U 3 ++ tkD dec 3 L3 j).length := by simp [hl]
            rw [e, fnR_take, fnR_add, ht, List.append_assoc]
          · rw [hAG, agx6_eq]
          · rw [hBK, blk6_eq]; simp only [nmR_eq]
        · have hj2 : j = L3.length := by omega
          subst hj2
          refine ⟨4, by omega, by omega, ?_⟩
          rw [hU3s, tkD_all]
          simp [hAG, hBK, agx6_eq, blk6_eq]
          decide
      · simp [hAG, agx6_eq]
        refine loop_of Nat (fun j => [(17, .ref (.r 10272) 0 ((U 4).length + j)), (10272, .blk 2 (fnR (U 4 ++ tkD dec 4 L4 j))), (18, .int .i64 4), (181, AG), (182, .int .i64 4), (186, .ref (.n 10064 0 4) 0 (L4).length), (187, .int .i64 (L4).length), (188, .int .i64 j), (10064, BK)]) (fun j => j ≤ (L4).length) (fun j => (L4).length - j) 0 (by simp) (by simp [hAG, hBK, agx6_eq, blk6_eq, tkD_zero]) ?_
        rintro j hj
        simp [hAG, hBK, agx6_eq, blk6_eq]
        refine brB_of (fun g3 => ?_) (fun g3 => ?_) <;> simp at g3 <;> simp [g3, hAG, hBK, agx6_eq, blk6_eq]
        · have hj2 : j < L4.length := by omega
          have hw3 : IntKind.wrap .i64 ((j : Int) + 1) = ((j + 1 : Nat) : Int) := wrap_i64 (by omega) (by omega)
          have hi := hI (L4[j]) (q4.2 _ (List.getElem_mem hj2))
          have ht := tkD_succ dec 4 L4 hj2
          have hl := tkD_len dec 4 L4 (Nat.le_of_lt hj2)
          rw [nmR_eq L4]
          try simp [hj2]
          refine callW_of hi (.inl rfl) ?_
          simp
          refine ⟨by omega, by omega, j + 1, by omega, by omega, by omega, ?_, ?_, hw3, ?_⟩
          · have e : (U 4).length + j = (U 4 ++ tkD dec 4 L4 j).length := by simp [hl]
            rw [e, fnR_take, fnR_add, ht, List.append_assoc]
          · rw [hAG, agx6_eq]
          · rw [hBK, blk6_eq]; simp only [nmR_eq]
        · have hj2 : j = L4.length := by omega
          subst hj2
          refine ⟨5, by omega, by omega, ?_⟩
          rw [hU4s, tkD_all]
          simp [hAG, hBK, agx6_eq, blk6_eq]
          decide
      · simp [hAG, agx6_eq]
        refine loop_of Nat (fun j => [(17, .ref (.r 10272) 0 ((U 5).length + j)), (10272, .blk 2 (fnR (U 5 ++ tkD dec 5 L5 j))), (18, .int .i64 5), (181, AG), (182, .int .i64 5), (186, .ref (.n 10064 0 5) 0 (L5).length), (187, .int .i64 (L5).length), (188, .int .i64 j), (10064, BK)]) (fun j => j ≤ (L5).length) (fun j => (L5).length - j) 0 (by simp) (by simp [hAG, hBK, agx6_eq, blk6_eq, tkD_zero]) ?_
        rintro j hj
        simp [hAG, hBK, agx6_eq, blk6_eq]
        refine brB_of (fun g3 => ?_) (fun g3 => ?_) <;> simp at g3 <;> simp [g3, hAG, hBK, agx6_eq, blk6_eq]
        · have hj2 : j < L5.length := by omega
          have hw3 : IntKind.wrap .i64 ((j : Int) + 1) = ((j + 1 : Nat) : Int) := wrap_i64 (by omega) (by omega)
          have hi := hI (L5[j]) (q5.2 _ (List.getElem_mem hj2))
          have ht := tkD_succ dec 5 L5 hj2
          have hl := tkD_len dec 5 L5 (Nat.le_of_lt hj2)
          rw [nmR_eq L5]
          try simp [hj2]
          refine callW_of hi (.inl rfl) ?_
          simp
          refine ⟨by omega, by omega, j + 1, by omega, by omega, by omega, ?_, ?_, hw3, ?_⟩
          · have e : (U 5).length + j = (U 5 ++ tkD dec 5 L5 j).length := by simp [hl]
            rw [e, fnR_take, fnR_add, ht, List.append_assoc]
          · rw [hAG, agx6_eq]
          · rw [hBK, blk6_eq]; simp only [nmR_eq]
        · have hj2 : j = L5.length := by omega
          subst hj2
          refine ⟨6, by omega, by omega, ?_⟩
          rw [hU5s, tkD_all]
          simp [hAG, hBK, agx6_eq, blk6_eq]
          decide
      · simp [hAG, agx6_eq]
        refine loop_of Nat (fun j => [(17, .ref (.r 10272) 0 ((U 6).length + j)), (10272, .blk 2 (fnR (U 6 ++ tkD dec 6 L6 j))), (18, .int .i64 6), (181, AG), (182, .int .i64 6), (186, .ref (.n 10064 0 6) 0 (L6).length), (187, .int .i64 (L6).length), (188, .int .i64 j), (10064, BK)]) (fun j => j ≤ (L6).length) (fun j => (L6).length - j) 0 (by simp) (by simp [hAG, hBK, agx6_eq, blk6_eq, tkD_zero]) ?_
        rintro j hj
        simp [hAG, hBK, agx6_eq, blk6_eq]
        refine brB_of (fun g3 => ?_) (fun g3 => ?_) <;> simp at g3 <;> simp [g3, hAG, hBK, agx6_eq, blk6_eq]
        · have hj2 : j < L6.length := by omega
          have hw3 : IntKind.wrap .i64 ((j : Int) + 1) = ((j + 1 : Nat) : Int) := wrap_i64 (by omega) (by omega)
          have hi := hI (L6[j]) (q6.2 _ (List.getElem_mem hj2))
          have ht := tkD_succ dec 6 L6 hj2
          have hl := tkD_len dec 6 L6 (Nat.le_of_lt hj2)
          rw [nmR_eq L6]
          try simp [hj2]
          refine callW_of hi (.inl rfl) ?_
          simp
          refine ⟨by omega, by omega, j + 1, by omega, by omega, by omega, ?_, ?_, hw3, ?_⟩
          · have e : (U 6).length + j = (U 6 ++ tkD dec 6 L6 j).length := by simp [hl]
            rw [e, fnR_take, fnR_add, ht, List.append_assoc]
          · rw [hAG, agx6_eq]
          · rw [hBK, blk6_eq]; simp only [nmR_eq]
        · have hj2 : j = L6.length := by omega
          subst hj2
          refine ⟨7, by omega, by omega, ?_⟩
          rw [hU6s, tkD_all]
          simp [hAG, hBK, agx6_eq, blk6_eq]
          decide
      · simp [hAG, agx6_eq]
        rfl
end Go.Gv

set_option linter.unusedSimpArgs false
namespace Go.Gv
theorem valid_small {m : Msh} (h : validM m = true) : m.s.length ≤ 2000 ∧ m.f.length ≤ 4000 := by
  simp only [validM, smallM, Bool.and_eq_true, decide_eq_true_eq] at h
  exact h.1
theorem valid_LL {m : Msh} (h : validM m = true) : ∀ l ∈ LL m, l = [] := by
  simp only [validM, Bool.and_eq_true, List.all_eq_true, decide_eq_true_eq] at h
  exact h.2
theorem valid_s {m : Msh} (h : validM m = true) {i : Nat} (hi : i < m.s.length) : rightS (spt m i) = true := by
  have := fil_nil.1 (valid_LL h (fil (farB m) m.s.length) (by simp [LL])) i hi
  simpa [farB] using this
theorem valid_f {m : Msh} (h : validM m = true) {i : Nat} (hi : i < m.f.length) : okF m (fce m i) = true ∧ 0 < turnT (triF m (fce m i)) := by
  have h1 := fil_nil.1 (valid_LL h (fil (badB m) m.f.length) (by simp [LL])) i hi
  have h2 := fil_nil.1 (valid_LL h (fil (flatB m) m.f.length) (by simp [LL])) i hi
  have h3 : okF m (fce m i) = true := by simpa [badB] using h1
  refine ⟨h3, ?_⟩
  simp [flatB, h3] at h2
  omega
theorem valid_in {m : Msh} (h : validM m = true) {i : Nat} (hi : i < m.f.length) : inS m (fce m i) = true := okF_inS (valid_f h hi).1
def hasSd (f : Fce) (a b : Int) : Bool := (List.range 3).any fun j => decide (crn f j = a) && decide (crn f (j + 1) = b)
def sideF (m : Msh) (a b : Int) : Int := idxD (fun f => hasSd f a b) m.f
def nbF (m : Msh) (i k : Nat) : Int := sideF m (crn (fce m i) (k + 1)) (crn (fce m i) k)
def lastF (p : Nat → Bool) : Nat → Option Nat
  | 0 => none
  | i + 1 => if p i then some i else lastF p i
def nbKs (m : Msh) : Nat → List D
  | 0 => []
  | i + 1 => sdK (fce m i) 3 ++ nbKs m i
def nbVs (m : Msh) : Nat → List D
  | 0 => []
  | i + 1 => List.replicate 3 (.int .i64 i) ++ nbVs m i
def nbC (m : Msh) (i k j c : Nat) : Int := if j < i ∨ (j = i ∧ c < k) then nbF m j c else 0
def nbR (m : Msh) (i k : Nat) : List (List D) := (List.range m.f.length).map fun j => [.int .i64 (nbC m i k j 0), .int .i64 (nbC m i k j 1), .int .i64 (nbC m i k j 2)]
def nbA (m : Msh) : List (List D) := (List.range m.f.length).map fun j => [.int .i64 (nbF m j 0), .int .i64 (nbF m j 1), .int .i64 (nbF m j 2)]
@[simp] theorem nbR_len (m : Msh) (i k : Nat) : (nbR m i k).length = m.f.length := by simp [nbR]
@[simp] theorem nbR_take (m : Msh) (i k : Nat) : List.take m.f.length (nbR m i k) = nbR m i k := List.take_of_length_le (by simp)
@[simp] theorem nbR_cv (m : Msh) (i k : Nat) : List.map (fun e => List.map cellV e) (nbR m i k) = nbR m i k := by simp [nbR]
variable {C : CC} (hC : Closed prog C)
include hC
theorem CheckF_c (m : Msh) (h : smallM m = false) : C 273 [.agg (mshC m)] (.tup [.nils, .int .i64 4]) [] := by
  have ksm := msmall_c hC m
  rw [show (decide (m.s.length ≤ 2000) && decide (m.f.length ≤ 4000)) = false from h] at ksm
  refine start hC (nf := N273_mesh_Check) rfl rfl ?_
  simp only [mshC_eq] at ksm
  simp [N273_mesh_Check, mshC_eq]
  refine callW_of ksm (.inl rfl) ?_
  simp
theorem mValid_c (dec : Nat → List UInt8) (hI : ∀ n : Nat, n < 100 → C 127 [.int .i64 n] (.str (dec n)) []) (m : Msh) (hz : smallM m = true → m.s.length ≤ 100 ∧ m.f.length ≤ 100) : C 234 [.agg (mshC m)] (.bool (validM m)) [] := by
  cases hs : smallM m
  · have k := CheckF_c hC m hs
    refine start hC (nf := N234_mesh_Valid) rfl rfl ?_
    simp only [mshC_eq] at k
    simp [N234_mesh_Valid, mshC_eq]
    refine callW_of k (.inr rfl) ?_
    simp [validM, hs]
  · obtain ⟨h1, h2⟩ := hz hs
    have k := Check_c hC dec hI m h1 h2
    have e : validM m = decide ((outF dec 0 (LL m)).length = 0) := by
      rw [validM, hs, Bool.true_and, Bool.eq_iff_iff, decide_eq_true_eq, List.length_eq_zero_iff, outF_nil]
    obtain ⟨X, hX⟩ : ∃ X, X = outF dec 0 (LL m) := ⟨_, rfl⟩
    rw [e]
    rw [← hX] at k ⊢
    refine start hC (nf := N234_mesh_Valid) rfl rfl ?_
    simp only [mshC_eq] at k
    simp [N234_mesh_Valid, mshC_eq]
    refine callW_of k (.inr rfl) ?_
    simp
end Go.Gv

namespace Go.Gv
section
variable {C : CC} {hs : Option (List Nat)} {K : Env → Prop} {ns : List NOper} {dst : Option Nat} {u : Tag (hs, K, ns)} {e : Env} {R : List Nat} {acc : List (List Nat × List Nat)}
@[simp] theorem idxW_at5 {sz : Nat} {c0 c1 c2 c3 c4 c5 : List D} {es : List (List D)} : idxW C hs K ns dst u e R acc sz (c0 :: c1 :: c2 :: c3 :: c4 :: c5 :: es) 5 = (c5.length = sz ∧ dW C hs K ns dst ⟨⟩ e R acc (.ptr c5)) := idxW_some rfl
@[simp] theorem rowW_at5 {n : Nat} {ag : Bool} {p : Pa} {off : Nat} {c0 c1 c2 c3 c4 c5 : List D} {es : List (List D)} : rowW C hs K ns dst u e R acc n ag p (c0 :: c1 :: c2 :: c3 :: c4 :: c5 :: es) 5 off = (off + n ≤ c5.length ∧ match ag with
        | true => (((c5.drop off).take n).all isV = true → dW C hs K ns dst ⟨⟩ e R acc (.agg ((c5.drop off).take n))) ∧
            (((c5.drop off).take n).all isV = false → dW C hs K ns dst ⟨⟩ e R acc (.agx (((c5.drop off).take n).mapIdx fun j c => ldc p 5 (off + j) c)))
        | false => dW C hs K ns dst ⟨⟩ e R acc (ldc p 5 off ((c5.drop off).headD .any))) := rowW_some rfl
@[simp] theorem idxW_at6 {sz : Nat} {c0 c1 c2 c3 c4 c5 c6 : List D} {es : List (List D)} : idxW C hs K ns dst u e R acc sz (c0 :: c1 :: c2 :: c3 :: c4 :: c5 :: c6 :: es) 6 = (c6.length = sz ∧ dW C hs K ns dst ⟨⟩ e R acc (.ptr c6)) := idxW_some rfl
@[simp] theorem rowW_at6 {n : Nat} {ag : Bool} {p : Pa} {off : Nat} {c0 c1 c2 c3 c4 c5 c6 : List D} {es : List (List D)} : rowW C hs K ns dst u e R acc n ag p (c0 :: c1 :: c2 :: c3 :: c4 :: c5 :: c6 :: es) 6 off = (off + n ≤ c6.length ∧ match ag with
        | true => (((c6.drop off).take n).all isV = true → dW C hs K ns dst ⟨⟩ e R acc (.agg ((c6.drop off).take n))) ∧
            (((c6.drop off).take n).all isV = false → dW C hs K ns dst ⟨⟩ e R acc (.agx (((c6.drop off).take n).mapIdx fun j c => ldc p 6 (off + j) c)))
        | false => dW C hs K ns dst ⟨⟩ e R acc (ldc p 6 off ((c6.drop off).headD .any))) := rowW_some rfl
@[simp] theorem idxW_at7 {sz : Nat} {c0 c1 c2 c3 c4 c5 c6 c7 : List D} {es : List (List D)} : idxW C hs K ns dst u e R acc sz (c0 :: c1 :: c2 :: c3 :: c4 :: c5 :: c6 :: c7 :: es) 7 = (c7.length = sz ∧ dW C hs K ns dst ⟨⟩ e R acc (.ptr c7)) := idxW_some rfl
@[simp] theorem rowW_at7 {n : Nat} {ag : Bool} {p : Pa} {off : Nat} {c0 c1 c2 c3 c4 c5 c6 c7 : List D} {es : List (List D)} : rowW C hs K ns dst u e R acc n ag p (c0 :: c1 :: c2 :: c3 :: c4 :: c5 :: c6 :: c7 :: es) 7 off = (off + n ≤ c7.length ∧ match ag with
        | true => (((c7.drop off).take n).all isV = true → dW C hs K ns dst ⟨⟩ e R acc (.agg ((c7.drop off).take n))) ∧
            (((c7.drop off).take n).all isV = false → dW C hs K ns dst ⟨⟩ e R acc (.agx (((c7.drop off).take n).mapIdx fun j c => ldc p 7 (off + j) c)))
        | false => dW C hs K ns dst ⟨⟩ e R acc (ldc p 7 off ((c7.drop off).headD .any))) := rowW_some rfl
end
end Go.Gv

set_option linter.unusedSimpArgs false
namespace Go.Gv
def decF (n : Nat) : List UInt8 := decL n []
def fdL (k : Int) (l : List Nat) : List (Int × List UInt8) := l.map fun i => (k, decF i)
@[simp] theorem fdL_len (k : Int) (l : List Nat) : (fdL k l).length = l.length := by simp [fdL]
def fdR (k : Int) (l : List Nat) : List (List D) := fnR (fdL k l)
@[simp] theorem fdR_len (k : Int) (l : List Nat) : (fdR k l).length = l.length := by simp [fdR]
@[simp] theorem fdR_take (k : Int) (l : List Nat) : List.take l.length (fdR k l) = fdR k l := List.take_of_length_le (by simp)
@[simp] theorem fdR_c1 (k : Int) (l : List Nat) : (∀ e ∈ fdR k l, ∀ c ∈ e, isC1 c = true) = True := by simp [fdR, fnR, fnD, fdL]
@[simp] theorem fdR_c1a (k : Int) (l : List Nat) (x : List D) : (∀ e, e ∈ fdR k l ∨ e = x → ∀ c, c ∈ e → isC1 c = true) = ∀ c, c ∈ x → isC1 c = true := by
  apply propext
  constructor
  · exact fun h => h x (.inr rfl)
  · rintro h e (he | rfl)
    · exact (fdR_c1 k l).mpr trivial e he
    · exact h
@[simp] theorem fdR_nil (k : Int) : fdR k [] = [] := rfl
def fcR (m : Msh) (l : List Nat) : List (List D) := l.map fun k => fceC (fce m k)
@[simp] theorem fcR_len (m : Msh) (l : List Nat) : (fcR m l).length = l.length := by simp [fcR]
@[simp] theorem fcR_take (m : Msh) (l : List Nat) : List.take l.length (fcR m l) = fcR m l := List.take_of_length_le (by simp)
@[simp] theorem fcR_nil (m : Msh) : fcR m [] = [] := rfl
def anyT (p : Nat → Bool) (l : List Nat) (k : Nat) : Bool := (l.take k).any p
def shP (m : Msh) (i k : Nat) : Bool := shareB (fce m i) (fce m k)
def ovP (m : Msh) (i k : Nat) : Bool := ovT (triF m (fce m i)) (triF m (fce m k))
def rcE4 (m : Msh) (i k : Nat) : Env := [(1, .ptr (mshC m)), (3, .ref (.r 10048) 0 7), (10048, .blk 1 [[.own 2 []], [.own 2 (fdR 1 (fil (farB m) m.s.length))], [.own 2 (fdR 2 (fil (sameB m) m.s.length))], [.own 2 (fdR 3 (fil (badB m) i))], [.own 2 (fdR 4 (fil (flatB m) i))], [.own 2 (fdR 5 (fil (sideB m) i))], [.own 2 (fdR 6 (fil (overB m) i))]]), (7, .ref (.r 10112) 0 (fil (sndB m) i).length), (10112, .blk 4 (fcR m (fil (sndB m) i))), (8, .int .i64 i), (9, .adr (.r 10144) 0 0), (10144, .blk 4 [fceC (fce m i)]), (10, .bool (anyT (shP m i) (fil (sndB m) i) k)), (11, .bool (anyT (ovP m i) (fil (sndB m) i) k)), (12, .int .i64 k)]
def rcE1 (m : Msh) (i : Nat) : Env := [(1, .ptr (mshC m)), (3, .ref (.r 10048) 0 7), (10048, .blk 1 [[.own 2 []], [.own 2 (fdR 1 (fil (farB m) i))], [.own 2 (fdR 2 (fil (sameB m) i))], [.own 2 []], [.own 2 []], [.own 2 []], [.own 2 []]]), (4, .int .i64 i)]
def rcE2 (m : Msh) (i k : Nat) : Env := [(1, .ptr (mshC m)), (3, .ref (.r 10048) 0 7), (10048, .blk 1 [[.own 2 []], [.own 2 (fdR 1 (fil (farB m) i))], [.own 2 (fdR 2 (fil (sameB m) i))], [.own 2 []], [.own 2 []], [.own 2 []], [.own 2 []]]), (4, .int .i64 i), (5, .adr (.r 10080) 0 0), (10080, .blk 3 [sptC (spt m i)]), (6, .int .i64 k)]
def rcE3 (m : Msh) (i : Nat) : Env := [(1, .ptr (mshC m)), (3, .ref (.r 10048) 0 7), (10048, .blk 1 [[.own 2 []], [.own 2 (fdR 1 (fil (farB m) m.s.length))], [.own 2 (fdR 2 (fil (sameB m) m.s.length))], [.own 2 (fdR 3 (fil (badB m) i))], [.own 2 (fdR 4 (fil (flatB m) i))], [.own 2 (fdR 5 (fil (sideB m) i))], [.own 2 (fdR 6 (fil (overB m) i))]]), (7, .ref (.r 10112) 0 (fil (sndB m) i).length), (10112, .blk 4 (fcR m (fil (sndB m) i))), (8, .int .i64 i)]
variable {C : CC} (hC : Closed prog C)
include hC
end Go.Gv

set_option linter.unusedSimpArgs false
namespace Go.Gv
def nbE1 (m : Msh) (i : Nat) : Env := [(1, .ptr (mshC m)), (3, .mrf 10224), (10224, .mp 3 2 (nbKs m i) (nbVs m i)), (16, slx m.fn (m.f.map fceC)), (17, .int .i64 m.f.length), (18, .int .i64 i)]
def nbE2 (m : Msh) (i k : Nat) : Env := [(1, .ptr (mshC m)), (3, .mrf 10224), (10224, .mp 3 2 (sdK (fce m i) k ++ nbKs m i) (List.replicate k (.int .i64 i) ++ nbVs m i)), (4, .int .i64 i), (5, .adr (.r 10080) 0 0), (10080, .blk 4 [fceC (fce m i)]), (16, slx m.fn (m.f.map fceC)), (17, .int .i64 m.f.length), (18, .int .i64 i), (23, .int .i64 k)]
def nbE3 (m : Msh) (i : Nat) : Env := [(3, .mrf 10224), (10224, .mp 3 2 (nbKs m m.f.length) (nbVs m m.f.length)), (7, .ref (.r 10112) 0 m.f.length), (10112, .blk 3 (nbR m i 0)), (38, slx m.fn (m.f.map fceC)), (39, .int .i64 m.f.length), (40, .int .i64 i)]
def nbE4 (m : Msh) (i k : Nat) : Env := [(3, .mrf 10224), (10224, .mp 3 2 (nbKs m m.f.length) (nbVs m m.f.length)), (7, .ref (.r 10112) 0 m.f.length), (10112, .blk 3 (nbR m i k)), (8, .int .i64 i), (9, .adr (.r 10144) 0 0), (10144, .blk 4 [fceC (fce m i)]), (38, slx m.fn (m.f.map fceC)), (39, .int .i64 m.f.length), (40, .int .i64 i), (45, .int .i64 k)]
variable {C : CC} (hC : Closed prog C)
include hC
end Go.Gv

set_option linter.unusedSimpArgs false
namespace Go.Gv
theorem rightS_bd {s : Spt} (h : rightS s = true) : -16777216 ≤ s.x ∧ s.x ≤ 16777216 ∧ -16777216 ≤ s.y ∧ s.y ≤ 16777216 ∧ -4194304 ≤ s.z ∧ s.z ≤ 4194304 := by
  simp only [rightS, Bool.and_eq_true, decide_eq_true_eq] at h
  omega
def spA (m : Msh) (i : Nat) : Spt := spt m (fce m i).a.toNat
def spB (m : Msh) (i : Nat) : Spt := spt m (fce m i).b.toNat
def spC (m : Msh) (i : Nat) : Spt := spt m (fce m i).c.toNat
def sumF (m : Msh) (i : Nat) : Int := (spA m i).z + (spB m i).z + (spC m i).z
def cenX (m : Msh) (i : Nat) : Int := (spA m i).x + (spB m i).x + (spC m i).x
def cenY (m : Msh) (i : Nat) : Int := (spA m i).y + (spB m i).y + (spC m i).y
theorem sp_bd {m : Msh} (hv : validM m = true) {i : Nat} (hi : i < m.f.length) : rightS (spA m i) = true ∧ rightS (spB m i) = true ∧ rightS (spC m i) = true := by
  obtain ⟨⟨_, h1⟩, ⟨_, h2⟩, ⟨_, h3⟩⟩ := inS_bd (valid_in hv hi)
  exact ⟨valid_s hv h1, valid_s hv h2, valid_s hv h3⟩
def smR (m : Msh) (i : Nat) : List (List D) := (List.range i).map fun j => [.int .i64 (sumF m j)]
def ctR (m : Msh) (i : Nat) : List (List D) := (List.range i).map fun j => [.int .i64 (cenX m j), .int .i64 (cenY m j)]
@[simp] theorem smR_len (m : Msh) (i : Nat) : (smR m i).length = i := by simp [smR]
@[simp] theorem ctR_len (m : Msh) (i : Nat) : (ctR m i).length = i := by simp [ctR]
@[simp] theorem smR_take (m : Msh) (i : Nat) : List.take i (smR m i) = smR m i := List.take_of_length_le (by simp)
@[simp] theorem ctR_take (m : Msh) (i : Nat) : List.take i (ctR m i) = ctR m i := List.take_of_length_le (by simp)
@[simp] theorem smR_c1a (m : Msh) (i : Nat) (x : List D) : (∀ e, e ∈ smR m i ∨ e = x → ∀ c, c ∈ e → isC1 c = true) = ∀ c, c ∈ x → isC1 c = true := by
  apply propext
  constructor
  · exact fun h => h x (.inr rfl)
  · rintro h e (he | rfl)
    · obtain ⟨j, _, rfl⟩ := List.mem_map.1 he
      simp
    · exact h
@[simp] theorem ctR_c1a (m : Msh) (i : Nat) (x : List D) : (∀ e, e ∈ ctR m i ∨ e = x → ∀ c, c ∈ e → isC1 c = true) = ∀ c, c ∈ x → isC1 c = true := by
  apply propext
  constructor
  · exact fun h => h x (.inr rfl)
  · rintro h e (he | rfl)
    · obtain ⟨j, _, rfl⟩ := List.mem_map.1 he
      simp
    · exact h
def cN (sz : Nat) (es : List (List D)) : D := match es with
  | [] => .nils
  | e :: r => .own sz (e :: r)
@[simp] theorem cellV_cN (sz : Nat) (es : List (List D)) : cellV (cN sz es) = slx true es := by cases es <;> rfl
def grC (m : Msh) : List D := [.sl (nbA m), slx true (smR m m.f.length), slx true (ctR m m.f.length)]
def mdE (m : Msh) (i : Nat) : Env := [(1, .ptr (mshC m)), (6, .adr (.r 10352) 0 0), (10352, .blk 3 [[.sl (nbA m), cN 1 (smR m i), cN 2 (ctR m i)]]), (24, slx m.fn (m.f.map fceC)), (25, .int .i64 m.f.length), (26, .int .i64 i)]
variable {C : CC} (hC : Closed prog C)
include hC
end Go.Gv

set_option linter.unusedSimpArgs false
namespace Go.Gv
def bsd (m : Msh) (i : Nat) (o : Int) : Bool := decide (o = nbF m i 0) || (decide (o = nbF m i 1) || decide (o = nbF m i 2))
def difF (m : Msh) (i j : Nat) : Int := sumF m i - sumF m j
def numF (m : Msh) (i j : Nat) : Int := difF m i j * (if difF m i j < -difF m i j then -difF m i j else difF m i j)
def denF (m : Msh) (i j : Nat) : Int := (cenX m i - cenX m j) * (cenX m i - cenX m j) + (cenY m i - cenY m j) * (cenY m i - cenY m j)
def cmpF (m : Msh) (i a b : Nat) : Int := cmp3 (numF m i a * denF m i b) (numF m i b * denF m i a)
def stpF (m : Msh) (i : Nat) (best n : Int) : Int := if n < 0 ∨ sumF m i ≤ sumF m n.toNat then best else if best < 0 then n else if 0 < cmpF m i n.toNat best.toNat ∨ (cmpF m i n.toNat best.toNat = 0 ∧ n < best) then n else best
def upF (m : Msh) (i : Nat) : Nat → Int
  | 0 => -2
  | k + 1 => stpF m i (upF m i k) (nbF m i k)
def runF (m : Msh) (i : Nat) : Int := if upF m i 3 = -2 ∧ bsd m i (-1) = true then -1 else upF m i 3
variable {C : CC} (hC : Closed prog C)
include hC
end Go.Gv

set_option linter.unusedSimpArgs false
namespace Go.Gv
def inR (l : List Int) : List (List D) := l.map fun n => [.int .i64 n]
@[simp] theorem inR_len (l : List Int) : (inR l).length = l.length := by simp [inR]
@[simp] theorem inR_take (l : List Int) : List.take l.length (inR l) = inR l := List.take_of_length_le (by simp)
@[simp] theorem inR_cv (l : List Int) : List.map (fun e => List.map cellV e) (inR l) = inR l := by simp [inR]
@[simp] theorem inR_nil : inR [] = [] := rfl
def sumL (m : Msh) : List Int := (List.range m.f.length).map fun j => sumF m j
def flowL (m : Msh) : List Int := (List.range m.f.length).map fun j => runF m j
def flT (m : Msh) (i : Nat) : List Int := (List.range i).map fun j => runF m j
def flB (m : Msh) : Nat → List (List D)
  | 0 => List.replicate m.f.length [.int .i64 0]
  | i + 1 => inR (flT m (i + 1))
def pth (m : Msh) : Nat → Int → List Int
  | 0, _ => []
  | k + 1, f => if f < 0 then [] else f :: pth m k (runF m f.toNat)
def rnk (m : Msh) (i : Nat) : Nat := ((List.range m.f.length).filter fun j => decide (sumF m j < sumF m i)).length
def pathL (m : Msh) (f : Int) : List Int := pth m m.f.length f
def lakT (m : Msh) (i : Nat) : List Int := ((List.range i).filter fun j => decide (runF m j = -2)).map fun (j : Nat) => (j : Int)
def lakL (m : Msh) : List Int := lakT m m.f.length
variable {C : CC} (hC : Closed prog C)
include hC
end Go.Gv

set_option linter.unusedSimpArgs false
namespace Go.Gv
def slE (m : Msh) (a b : Int) : Int := if validM m = false then 1 else if inR1 m.f.length a = false ∨ inR1 m.f.length b = false then 2 else if bsd m a.toNat b = false then 25 else 0
def stE (m : Msh) (i a b : Int) : Int := if validM m = false then 1 else if inR1 m.f.length i = false ∨ inR1 m.f.length a = false ∨ inR1 m.f.length b = false then 2 else if bsd m i.toNat a = false ∨ bsd m i.toNat b = false then 25 else 0
variable {C : CC} (hC : Closed prog C)
include hC
end Go.Gv

set_option linter.unusedSimpArgs false
namespace Go.Gv
theorem idxD_at {α : Type} {p : α → Bool} {xs : List α} {i : Nat} (h : idxD p xs = (i : Int)) : ∃ h : i < xs.length, p xs[i] = true := by
  unfold idxD at h
  cases e : xs.findIdx? p with
  | none => rw [e] at h; simp at h
  | some k =>
    rw [e] at h
    have h : k = i := by have h : (k : Int) = (i : Int) := h; omega
    subst h
    rw [List.findIdx?_eq_some_iff_getElem] at e
    exact ⟨e.1, e.2.1⟩
def cpt (m : Msh) (f : Fce) (k : Nat) : Pnt := ptS (spt m (crn f k).toNat)
end Go.Gv

set_option linter.unusedSimpArgs false
namespace Go.Gv
def tn0 (m : Msh) (i : Nat) (p : Pnt) : Int := turnP (ptS (spA m i)) (ptS (spB m i)) p
def tn1 (m : Msh) (i : Nat) (p : Pnt) : Int := turnP (ptS (spB m i)) (ptS (spC m i)) p
def tn2 (m : Msh) (i : Nat) (p : Pnt) : Int := turnP (ptS (spC m i)) (ptS (spA m i)) p
def osF (m : Msh) (i : Nat) (p : Pnt) : Int := if tn0 m i p < 0 then 0 else if tn1 m i p < 0 then 1 else if tn2 m i p < 0 then 2 else -1
def fndF (m : Msh) (p : Pnt) : Int := idxD (fun i => decide (osF m i p < 0)) (List.range m.f.length)
theorem fndF_on {m : Msh} {p : Pnt} (h : 0 ≤ fndF m p) : (fndF m p).toNat < m.f.length ∧ osF m (fndF m p).toNat p < 0 := by
  have e : fndF m p = ((fndF m p).toNat : Int) := by omega
  obtain ⟨h1, h2⟩ := idxD_at (p := fun i => decide (osF m i p < 0)) (xs := List.range m.f.length) e
  simp at h1 h2
  exact ⟨h1, h2⟩
theorem osF_on {m : Msh} {i : Nat} {p : Pnt} (h : osF m i p < 0) : 0 ≤ tn0 m i p ∧ 0 ≤ tn1 m i p ∧ 0 ≤ tn2 m i p := by
  unfold osF at h
  split at h
  · omega
  · split at h
    · omega
    · split at h
      · omega
      · omega
def cor9 (m : Msh) (i : Nat) : List D := [.int .i64 (spA m i).x, .int .i64 (spA m i).y, .int .i64 (spA m i).z, .int .i64 (spB m i).x, .int .i64 (spB m i).y, .int .i64 (spB m i).z, .int .i64 (spC m i).x, .int .i64 (spC m i).y, .int .i64 (spC m i).z]
theorem cor9_eq (m : Msh) (i : Nat) : cor9 m i = [.int .i64 (spA m i).x, .int .i64 (spA m i).y, .int .i64 (spA m i).z, .int .i64 (spB m i).x, .int .i64 (spB m i).y, .int .i64 (spB m i).z, .int .i64 (spC m i).x, .int .i64 (spC m i).y, .int .i64 (spC m i).z] := _root_.id rfl
theorem sp_okP {m : Msh} (hv : validM m = true) {i : Nat} (hi : i < m.f.length) : okP (ptS (spA m i)) = true ∧ okP (ptS (spB m i)) = true ∧ okP (ptS (spC m i)) = true := by
  obtain ⟨h1, h2, h3⟩ := sp_bd hv hi
  exact ⟨okP_of h1, okP_of h2, okP_of h3⟩
@[simp] theorem ptD_len (p : Pnt) : (ptD p).length = 2 := _root_.id rfl
@[simp] theorem ptD_take (p : Pnt) : List.take 2 (ptD p) = ptD p := _root_.id rfl
@[simp] theorem ptD_v (p : Pnt) : (∀ x, x ∈ ptD p → isV x = true) = True := by simp [ptD]
@[simp] theorem ptD_c (p : Pnt) : (∀ x, x ∈ ptD p → isC1 x = true) = True := by simp [ptD]
variable {C : CC} (hC : Closed prog C)
include hC
theorem lcorners_c (m : Msh) (i : Nat) (hi : i < m.f.length) (h : inS m (fce m i) = true) : C 319 [.agg (mshC m), .int .i64 i] (.agg (cor9 m i)) [] := by
  obtain ⟨⟨a1, a2⟩, ⟨b1, b2⟩, ⟨c1, c2⟩⟩ := inS_bd h
  refine start hC (nf := N319_locate_corners) rfl rfl ?_
  simp [N319_locate_corners, mshC_eq, hi, fceC_eq, a1, a2, b1, b2, c1, c2, sptC_eq, cor9, spA, spB, spC]
  exact indW_of (by decide +kernel)
theorem lat_c (s : Spt) : C 321 [.agg (sptC s)] (.agg (ptD (ptS s))) [] := by
  refine start hC (nf := N321_locate_at) rfl rfl ?_
  simp [N321_locate_at, sptC, ptD, ptS]
theorem lturn_c {a b c : Pnt} (ha : okP a = true) (hb : okP b = true) (hc : okP c = true) : C 320 [.agg (ptD a), .agg (ptD b), .agg (ptD c)] (.int .i64 (turnP a b c)) [] := by
  have := okP_bd ha
  have := okP_bd hb
  have := okP_bd hc
  have h4 := turn_bd ha hb hc
  refine start hC (nf := N320_locate_turn) rfl rfl ?_
  have w1 : IntKind.wrap .i64 (b.1 - a.1) = b.1 - a.1 := wrap_i64 rfl (by omega)
  have w2 : IntKind.wrap .i64 (c.2 - a.2) = c.2 - a.2 := wrap_i64 rfl (by omega)
  have w3 : IntKind.wrap .i64 (b.2 - a.2) = b.2 - a.2 := wrap_i64 rfl (by omega)
  have w4 : IntKind.wrap .i64 (c.1 - a.1) = c.1 - a.1 := wrap_i64 rfl (by omega)
  have w5 : IntKind.wrap .i64 ((b.1 - a.1) * (c.2 - a.2)) = (b.1 - a.1) * (c.2 - a.2) := wrap_i64 rfl (by omega)
  have w6 : IntKind.wrap .i64 ((b.2 - a.2) * (c.1 - a.1)) = (b.2 - a.2) * (c.1 - a.1) := wrap_i64 rfl (by omega)
  have w7 : IntKind.wrap .i64 ((b.1 - a.1) * (c.2 - a.2) - (b.2 - a.2) * (c.1 - a.1)) = turnP a b c := wrap_i64 rfl (by rw [turnP]; omega)
  simp [N320_locate_turn, ptD, w1, w2, w3, w4, w5, w6, w7]
set_option maxHeartbeats 2000000 in
theorem louter_c (m : Msh) (hv : validM m = true) (i : Nat) (hi : i < m.f.length) (p : Pnt) (hp : okP p = true) : C 284 [.agg (mshC m), .int .i64 i, .agg (ptD p)] (.int .i64 (osF m i p)) [] := by
  obtain ⟨oa, ob, oc⟩ := sp_okP hv hi
  have k0 := lcorners_c hC m i hi (valid_in hv hi)
  have ka := lat_c hC (spA m i)
  have kb := lat_c hC (spB m i)
  have kc := lat_c hC (spC m i)
  have t0 : C 320 [.agg (ptD (ptS (spA m i))), .agg (ptD (ptS (spB m i))), .agg (ptD p)] (.int .i64 (tn0 m i p)) [] := lturn_c hC oa ob hp
  have t1 : C 320 [.agg (ptD (ptS (spB m i))), .agg (ptD (ptS (spC m i))), .agg (ptD p)] (.int .i64 (tn1 m i p)) [] := lturn_c hC ob oc hp
  have t2 : C 320 [.agg (ptD (ptS (spC m i))), .agg (ptD (ptS (spA m i))), .agg (ptD p)] (.int .i64 (tn2 m i p)) [] := lturn_c hC oc oa hp
  have w1 : IntKind.wrap .i64 1 = 1 := by decide
  have w2 : IntKind.wrap .i64 2 = 2 := by decide
  have w3 : IntKind.wrap .i64 3 = 3 := by decide
  have m1 : Int.tmod 1 3 = 1 := by decide
  have m2 : Int.tmod 2 3 = 2 := by decide
  have m3 : Int.tmod 3 3 = 0 := by decide
  simp only [mshC_eq, sptC_eq, cor9_eq] at k0 ka kb kc
  refine start hC (nf := N284_locate_outer) rfl rfl ?_
  simp [N284_locate_outer, mshC_eq]
  refine callW_of k0 (.inl rfl) ?_
  simp
  refine loop_of Nat (fun k => [(5, .ptr (ptD p)), (7, .adr (.r 10112) 0 0), (12, .int .i64 k), (10112, .blk 9 [cor9 m i])]) (fun k => k ≤ 3 ∧ (1 ≤ k → ¬ tn0 m i p < 0) ∧ (2 ≤ k → ¬ tn1 m i p < 0) ∧ (3 ≤ k → ¬ tn2 m i p < 0)) (fun k => 3 - k) 0 (by simp) (by simp [cor9_eq]) ?_
  rintro k ⟨hk, h0, h1, h2⟩
  rcases (by omega : k = 0 ∨ k = 1 ∨ k = 2 ∨ k = 3) with rfl | rfl | rfl | rfl
  · simp [cor9_eq, w1]
    refine callW_of ka (.inl rfl) ?_
    simp [w1, m1]
    refine callW_of kb (.inl rfl) ?_
    simp
    refine callW_of t0 (.inl rfl) ?_
    simp
    refine ⟨indW_of (by decide +kernel), ?_⟩
    refine brB_of (fun c => ?_) (fun c => ?_) <;> simp at c
    · simp [c, osF]
    · simp [c]
      exact ⟨1, by omega, by omega, by simp [cor9_eq, w1]⟩
  · have h0 := h0 (by omega)
    simp [cor9_eq, w2]
    refine callW_of kb (.inl rfl) ?_
    simp [w2, m2]
    refine callW_of kc (.inl rfl) ?_
    simp
    refine callW_of t1 (.inl rfl) ?_
    simp
    refine ⟨indW_of (by decide +kernel), ?_⟩
    refine brB_of (fun c => ?_) (fun c => ?_) <;> simp at c
    · simp [c, osF, h0]
    · simp [c]
      exact ⟨2, by omega, by omega, by simp [cor9_eq, w2]⟩
  · have h0 := h0 (by omega)
    have h1 := h1 (by omega)
    simp [cor9_eq, w3]
    refine callW_of kc (.inl rfl) ?_
    simp [w3, m3]
    refine callW_of ka (.inl rfl) ?_
    simp
    refine callW_of t2 (.inl rfl) ?_
    simp
    refine ⟨indW_of (by decide +kernel), ?_⟩
    refine brB_of (fun c => ?_) (fun c => ?_) <;> simp at c
    · simp [c, osF, h0, h1]
    · simp [c]
      exact ⟨3, by omega, by omega, by simp [cor9_eq, w3]⟩
  · have h0 := h0 (by omega)
    have h1 := h1 (by omega)
    have h2 := h2 (by omega)
    simp [osF, h0, h1, h2]
set_option maxHeartbeats 2000000 in
theorem lfind_c (m : Msh) (hv : validM m = true) (hm : m.f.length ≤ 100) (p : Pnt) (hp : okP p = true) : C 276 [.agg (mshC m), .agg (ptD p)] (.int .i64 (fndF m p)) [] := by
  have ko := fun i hi => louter_c hC m hv i hi p hp
  simp only [mshC_eq] at ko
  refine start hC (nf := N276_locate_find) rfl rfl ?_
  simp [N276_locate_find, mshC_eq]
  refine loop_of Nat (fun i => [(2, .ptr (mshC m)), (3, .ptr (ptD p)), (8, .int .i64 m.f.length), (9, .int .i64 i)]) (fun i => i ≤ m.f.length ∧ ∀ j, j < i → ¬ osF m j p < 0) (fun i => m.f.length - i) 0 (by simp) (by simp [mshC_eq]) ?_
  rintro i ⟨hi, hj⟩
  simp [mshC_eq]
  refine brB_of (fun g1 => ?_) (fun g1 => ?_) <;> simp at g1 <;> simp [g1]
  · have hw : IntKind.wrap .i64 ((i : Int) + 1) = ((i + 1 : Nat) : Int) := wrap_i64 (by omega) (by omega)
    refine callW_of (ko i g1) (.inl rfl) ?_
    simp
    refine brB_of (fun c => ?_) (fun c => ?_) <;> simp at c
    · simp [c]
      refine (idxD_step (fun j hl hji => ?_) (by simpa using g1) ?_).symm
      · have := hj j hji
        simpa using this
      · simpa using c
    · simp [c]
      refine ⟨i + 1, ⟨by omega, fun j hji => ?_⟩, by omega, by simp [mshC_eq, hw]⟩
      rcases Nat.lt_succ_iff_lt_or_eq.1 hji with h | rfl
      · exact Int.not_lt.1 (hj j h)
      · exact c
  · refine (idxD_none (fun j hl => ?_)).symm
    rw [List.length_range] at hl
    have := hj j (by omega)
    simpa using this
theorem idxPnt_c {b : Bool} {xs : List Pnt} {g : Nat} {cs : List D} (p : Pnt → Bool) (hs : xs.length < 2 ^ 62) (hp : ∀ x ∈ xs, C g (.agg (ptD x) :: cs) (.bool (p x)) []) : C 278 [slx b (xs.map fun x => ptD x), .fn g cs] (.int .i64 (idxD p xs)) [] := by
  refine start hC (nf := N278_slices_IndexFunc__api_Point_api_Point) rfl rfl ?_
  simp [N278_slices_IndexFunc__api_Point_api_Point]
  refine loop_of Nat (fun i => [(0, slx b (xs.map fun x => ptD x)), (1, .fn g cs), (7, .int .i64 xs.length), (8, .int .i64 i)]) (fun i => i ≤ xs.length ∧ ∀ (j : Nat) (h : j < xs.length), j < i → p xs[j] = false) (fun i => xs.length - i) 0 (by simp) (by simp) ?_
  rintro i ⟨hi, hj⟩
  simp
  refine brB_of (fun h => ?_) (fun h => ?_) <;> simp [h] <;> simp at h
  · have hw : IntKind.wrap .i64 ((i : Int) + 1) = ((i + 1 : Nat) : Int) := wrap_i64 (by omega) (by omega)
    have hc := hp _ (List.getElem_mem h)
    simp [h, ptD] at hc ⊢
    refine callW_of hc (.inl rfl) ?_
    simp
    refine brB_of (fun h1 => ?_) (fun h1 => ?_) <;> simp [h1, hw]
    · rw [idxD_step hj h h1]
    · refine ⟨i + 1, ⟨by omega, fun j hl hjj => ?_⟩, by omega, rfl⟩
      rcases Nat.lt_succ_iff_lt_or_eq.1 hjj with h2 | rfl
      · exact hj j hl h2
      · exact h1
  · rw [idxD_none (fun j hl => hj j hl (by omega))]
theorem hasPnt_c {b : Bool} {xs : List Pnt} {g : Nat} {cs : List D} (p : Pnt → Bool) (hs : xs.length < 2 ^ 62) (hp : ∀ x ∈ xs, C g (.agg (ptD x) :: cs) (.bool (p x)) []) : C 239 [slx b (xs.map fun x => ptD x), .fn g cs] (.bool (xs.any p)) [] := by
  refine start hC (nf := N239_slices_ContainsFunc__api_Point_api_Point) rfl rfl ?_
  simp [N239_slices_ContainsFunc__api_Point_api_Point]
  refine callW_of (idxPnt_c hC p hs hp) (.inl rfl) ?_
  simp [idxD_any]
theorem lvalid1_c (p : Pnt) : C 312 [.agg (ptD p)] (.bool (!okP p)) [] := by
  have k := pValid_c hC p
  simp only [ptD] at k
  refine start hC (nf := N312_locate_valid_1) rfl rfl ?_
  simp [N312_locate_valid_1, ptD]
  refine callW_of k (.inl rfl) ?_
  simp
end Go.Gv

set_option linter.unusedSimpArgs false
namespace Go.Gv
def onE (m : Msh) (p : Pnt) : Int := if validM m = true ∧ okP p = true then (if fndF m p < 0 then 12 else 0) else 1
def onV (m : Msh) (p : Pnt) : Int := if onE m p = 0 then fndF m p else 0
theorem onE_at {m : Msh} {p : Pnt} (h : onE m p = 0) : validM m = true ∧ okP p = true ∧ 0 ≤ fndF m p := by
  unfold onE at h
  split at h
  · rename_i h1
    refine ⟨h1.1, h1.2, ?_⟩
    split at h
    · omega
    · omega
  · omega
def wlk (m : Msh) (p : Pnt) : Nat → Nat → Int × Int × Int
  | r, f => if osF m f p < 0 then ((f : Int), ((m.f.length - r : Nat) : Int), 0) else if nbF m f (osF m f p).toNat < 0 then (0, 0, 12) else match r with
    | 0 => (0, 0, 6)
    | r + 1 => wlk m p r (nbF m f (osF m f p).toNat).toNat
def wkR (m : Msh) (from_ : Int) (p : Pnt) : Int × Int × Int := if validM m = true ∧ okP p = true then (if inR1 m.f.length from_ = true then wlk m p m.f.length from_.toNat else (0, 0, 2)) else (0, 0, 1)
def trpD (t : Int × Int × Int) : D := .tup [.int .i64 t.1, .int .i64 t.2.1, .int .i64 t.2.2]
variable {C : CC} (hC : Closed prog C)
include hC
theorem lvalid_c (dec : Nat → List UInt8) (hI : ∀ n : Nat, n < 100 → C 127 [.int .i64 n] (.str (dec n)) []) (m : Msh) (hz : smallM m = true → m.s.length ≤ 100 ∧ m.f.length ≤ 100) (b : Bool) (ps : List Pnt) (hp : ps.length < 2 ^ 62) :
    C 275 [.agg (mshC m), slx b (ps.map fun x => ptD x)] (.bool (validM m && ps.all okP)) [] := by
  have k1 := mValid_c hC dec hI m hz
  have k2 := hasPnt_c hC (b := b) (xs := ps) (g := 312) (cs := []) (fun x => !okP x) hp (fun x _ => lvalid1_c hC x)
  have e : (ps.any fun x => !okP x) = !ps.all okP := by rw [List.all_eq_not_any_not, Bool.not_not]
  rw [e] at k2
  refine start hC (nf := N275_locate_valid) rfl rfl ?_
  simp only [mshC_eq] at k1
  simp [N275_locate_valid, mshC_eq]
  refine callW_of k1 (.inl rfl) ?_
  cases validM m
  · simp
  · simp
    refine callW_of k2 (.inl rfl) ?_
    simp
theorem lon_c (dec : Nat → List UInt8) (hI : ∀ n : Nat, n < 100 → C 127 [.int .i64 n] (.str (dec n)) []) (m : Msh) (hz : smallM m = true → m.s.length ≤ 100 ∧ m.f.length ≤ 100) (p : Pnt) :
    C 274 [.agg (mshC m), .agg (ptD p)] (.tup [.int .i64 (onV m p), .int .i64 (onE m p)]) [] := by
  have k1 := lvalid_c hC dec hI m hz false [p] (by simp)
  simp at k1
  refine start hC (nf := N274_locate_on) rfl rfl ?_
  simp only [mshC_eq] at k1
  simp only [ptD] at k1
  simp [N274_locate_on, mshC_eq, ptD]
  refine callW_of k1 (.inl rfl) ?_
  by_cases hv : validM m = true ∧ okP p = true
  · have hm := (hz (by have := hv.1; simp only [validM, Bool.and_eq_true] at this; exact this.1)).2
    have k2 := lfind_c hC m hv.1 hm p hv.2
    simp only [mshC_eq, ptD] at k2
    simp [hv.1, hv.2]
    refine callW_of k2 (.inl rfl) ?_
    simp
    refine brB_of (fun c => ?_) (fun c => ?_) <;> simp at c <;> simp [c, onE, onV, hv.1, hv.2]
  · have e : (validM m && okP p) = false := by
      cases h1 : validM m <;> cases h2 : okP p <;> simp [h1, h2] at hv ⊢
    simp [e, onE, onV, hv]
end Go.Gv
