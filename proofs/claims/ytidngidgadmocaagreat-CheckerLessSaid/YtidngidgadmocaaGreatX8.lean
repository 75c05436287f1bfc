/-
  Texts of the proof: A1, GvW, GvX, GvX2, K1, K3, Q0, Q1, Q2, K4, K5, K6, K7, K8, K2, K9, Q3, A4, Q4, Q5, B1, B2, K10, B3, B4, B5, Q6, Q7, Q12, Q22, Q28, S0, Q29, M1, P4, M0, W1, W2, W3, W4, K11, W5, P4b, Q8, Q30, Q9, Q10, K12, M2a, K13, M2, M3, M4, P3, B6, B7, P5, M5, P1, P2, B8, P6, Q14, Q15, Q16, Q17, B9, P7, Q19, Q23, Q25, Q31, Q32, Q33, Q11, Q13, Q18, Q20, Q24, Q26, Q34, A2, A3, A5, A6, A7.
-/
import Derived.Test.YtidngidgadmocaaGreatX7
import Derived.Lib.Bytealg
import Derived.Shelf.SlSortCmp.NoneTotal
import Derived.Test.YtidngidgadmocaaGreatX6
import Derived.Lib.SlicesCompact
import Derived.Lib.Mul64
import Derived.Laws.Bits64b
import Derived.Laws.MathBits
set_option linter.all false
namespace Go.Gv
open Go.Lib Go.Sort Go.Proofs
abbrev Fnd := Int × List UInt8
def fndC (x : Fnd) : List D := [.int .i64 x.1, .str x.2]
/-- A comparison that parts whatever two are not one. -/
structure TC {α : Type} (c : α → α → Int) : Prop where
  eq0 : ∀ x y, c x y = 0 → x = y
  anti : ∀ x y, c y x = - c x y
  trans : ∀ x y z, c x y < 0 → c y z < 0 → c x z < 0
section
variable {α : Type} {c : α → α → Int}
theorem TC.refl (h : TC c) (x : α) : c x x = 0 := by have := h.anti x x; omega
theorem TC.swo (h : TC c) : SWO (ltOf c) where
  irrefl x := by simp [ltOf, h.refl x]
  trans x y z h1 h2 := by
    simp only [ltOf, decide_eq_true_eq] at *
    exact h.trans x y z h1 h2
  ntrans x y z h1 h2 := by
    simp only [ltOf, decide_eq_false_iff_not] at *
    by_cases e1 : c x y = 0
    · rw [h.eq0 _ _ e1]; exact h2
    by_cases e2 : c y z = 0
    · rw [← h.eq0 _ _ e2]; exact h1
    have a1 := h.anti x y
    have a2 := h.anti y z
    have a3 := h.anti x z
    have := h.trans z y x (by omega) (by omega)
    omega
theorem TC.tot (h : TC c) (x y : α) (h1 : (ltOf c) x y = false) (h2 : (ltOf c) y x = false) : x = y := by
  simp only [ltOf, decide_eq_false_iff_not] at *
  have := h.anti x y
  exact h.eq0 x y (by omega)
end
theorem u8_lt {a b : UInt8} : (a < b) ↔ a.toNat < b.toNat := UInt8.lt_iff_toNat_lt
theorem u8_eq {a b : UInt8} (h : a.toNat = b.toNat) : a = b := UInt8.toNat_inj.1 h
theorem cB_anti : ∀ a b : List UInt8, compareBytes b a = - compareBytes a b
  | [], [] => rfl
  | [], _ :: _ => rfl
  | _ :: _, [] => rfl
  | a :: xs, b :: ys => by
    simp only [compareBytes, u8_lt]
    by_cases h1 : a.toNat < b.toNat
    · rw [if_neg (show ¬ b.toNat < a.toNat by omega), if_pos h1, if_pos h1]; rfl
    · by_cases h2 : b.toNat < a.toNat
      · rw [if_pos h2, if_neg h1, if_pos h2]
      · rw [if_neg h2, if_neg h1, if_neg h1, if_neg h2, cB_anti xs ys]
theorem cB_eq0 : ∀ a b : List UInt8, compareBytes a b = 0 → a = b
  | [], [], _ => rfl
  | [], _ :: _, h => by simp [compareBytes] at h
  | _ :: _, [], h => by simp [compareBytes] at h
  | a :: xs, b :: ys, h => by
    simp only [compareBytes, u8_lt] at h
    by_cases h1 : a.toNat < b.toNat
    · rw [if_pos h1] at h; cases h
    · by_cases h2 : b.toNat < a.toNat
      · rw [if_neg h1, if_pos h2] at h; cases h
      · rw [if_neg h1, if_neg h2] at h
        rw [cB_eq0 xs ys h, u8_eq (show a.toNat = b.toNat by omega)]
theorem cB_trans : ∀ a b d : List UInt8, compareBytes a b < 0 → compareBytes b d < 0 → compareBytes a d < 0
  | [], _, [], _, h2 => by
    rename_i b _
    cases b with
    | nil => exact h2
    | cons x xs => simp [compareBytes] at h2
  | [], _, _ :: _, _, _ => by simp [compareBytes]
  | _ :: _, [], _, h1, _ => by simp [compareBytes] at h1
  | _ :: _, _ :: _, [], _, h2 => by simp [compareBytes] at h2
  | a :: xs, b :: ys, d :: zs, h1, h2 => by
    simp only [compareBytes, u8_lt] at h1 h2 ⊢
    by_cases e1 : a.toNat < b.toNat
    · by_cases e2 : b.toNat < d.toNat
      · rw [if_pos (show a.toNat < d.toNat by omega)]; decide
      · by_cases e3 : d.toNat < b.toNat
        · rw [if_neg e2, if_pos e3] at h2; exact absurd h2 (by decide)
        · rw [if_pos (show a.toNat < d.toNat by omega)]; decide
    · by_cases e4 : b.toNat < a.toNat
      · rw [if_neg e1, if_pos e4] at h1; exact absurd h1 (by decide)
      · rw [if_neg e1, if_neg e4] at h1
        by_cases e2 : b.toNat < d.toNat
        · rw [if_pos (show a.toNat < d.toNat by omega)]; decide
        · by_cases e3 : d.toNat < b.toNat
          · rw [if_neg e2, if_pos e3] at h2; exact absurd h2 (by decide)
          · rw [if_neg e2, if_neg e3] at h2
            rw [if_neg (show ¬ a.toNat < d.toNat by omega), if_neg (show ¬ d.toNat < a.toNat by omega)]
            exact cB_trans xs ys zs h1 h2
theorem cB_tc : TC compareBytes := ⟨cB_eq0, cB_anti, cB_trans⟩
def intC (a b : Int) : Int := if a < b then -1 else if b < a then 1 else 0
def fcmp (x y : Fnd) : Int := if intC x.1 y.1 = 0 then compareBytes x.2 y.2 else intC x.1 y.1
theorem intC_tc : TC intC := by
  refine ⟨fun x y h => ?_, fun x y => ?_, fun x y z h1 h2 => ?_⟩ <;> unfold intC at * <;> (repeat' split at *) <;> first | omega | (simp at *; done) | (simp at *; omega)
theorem fcmp_tc : TC fcmp := by
  refine ⟨fun x y h => ?_, fun x y => ?_, fun x y z h1 h2 => ?_⟩
  · unfold fcmp at h
    split at h
    · rename_i e
      exact Prod.ext (intC_tc.eq0 _ _ e) (cB_eq0 _ _ h)
    · rename_i e; exact absurd h e
  · unfold fcmp
    rw [intC_tc.anti x.1 y.1, cB_anti x.2 y.2]
    by_cases e : intC x.1 y.1 = 0
    · rw [if_pos e, if_pos (by omega)]
    · rw [if_neg e, if_neg (by omega)]
  · unfold fcmp at *
    by_cases e1 : intC x.1 y.1 = 0
    · rw [if_pos e1] at h1
      rw [← intC_tc.eq0 _ _ e1] at h2
      by_cases e2 : intC x.1 z.1 = 0
      · rw [if_pos e2] at h2 ⊢
        exact cB_trans _ _ _ h1 h2
      · rw [if_neg e2] at h2 ⊢
        exact h2
    · rw [if_neg e1] at h1
      by_cases e2 : intC y.1 z.1 = 0
      · rw [if_pos e2] at h2
        rw [← intC_tc.eq0 _ _ e2, if_neg e1]
        exact h1
      · rw [if_neg e2] at h2
        have h3 := intC_tc.trans _ _ _ h1 h2
        rw [if_neg (by omega)]
        exact h3

/-! ### Sorted lists -/
section
variable {α : Type} {c : α → α → Int}
def SrtC (c : α → α → Int) (l : List α) : Prop := l.Pairwise fun x y => c x y < 0
theorem SrtC.nodup (h : TC c) {l : List α} (hs : SrtC c l) : l.Nodup := hs.imp fun {x y} hxy e => by subst e; have := h.refl x; omega
/-- A sorted list is known by what is in it. -/
theorem SrtC.unique (h : TC c) : ∀ {l l' : List α}, SrtC c l → SrtC c l' → (∀ x, x ∈ l ↔ x ∈ l') → l = l'
  | [], [], _, _, _ => rfl
  | [], y :: _, _, _, hm => absurd ((hm y).2 (by simp)) (by simp)
  | x :: _, [], _, _, hm => absurd ((hm x).1 (by simp)) (by simp)
  | x :: l, y :: l', hs, hs', hm => by
    obtain ⟨a1, a2⟩ := List.pairwise_cons.1 hs
    obtain ⟨b1, b2⟩ := List.pairwise_cons.1 hs'
    have e : x = y := by
      rcases List.mem_cons.1 ((hm x).1 (by simp)) with e | e
      · exact e
      · rcases List.mem_cons.1 ((hm y).2 (by simp)) with e' | e'
        · exact e'.symm
        · have h1 := b1 x e
          have h2 := a1 y e'
          have := h.anti x y
          omega
    subst e
    rw [SrtC.unique h a2 b2 (fun z => ⟨fun hz => ?_, fun hz => ?_⟩)]
    · rcases List.mem_cons.1 ((hm z).1 (by simp [hz])) with e | e
      · subst e; have := a1 z hz; have := h.refl z; omega
      · exact e
    · rcases List.mem_cons.1 ((hm z).2 (by simp [hz])) with e | e
      · subst e; have := b1 z hz; have := h.refl z; omega
      · exact e
/-- Neighbours that are equal, once. -/
def ddL [DecidableEq α] : List α → List α
  | [] => []
  | [x] => [x]
  | x :: y :: r => if x = y then ddL (y :: r) else x :: ddL (y :: r)
theorem ddL_cons [DecidableEq α] (x y : α) (r : List α) : ddL (x :: y :: r) = if x = y then ddL (y :: r) else x :: ddL (y :: r) := rfl
theorem ddL_mem [DecidableEq α] : ∀ (l : List α) (x : α), x ∈ ddL l ↔ x ∈ l
  | [], x => by simp [ddL]
  | [y], x => by simp [ddL]
  | y :: z :: r, x => by
    rw [ddL_cons]
    have ih := ddL_mem (z :: r) x
    by_cases e : y = z
    · rw [if_pos e, ih]; subst e; simp
    · rw [if_neg e, List.mem_cons, ih]; simp
theorem ddL_srt [DecidableEq α] (h : TC c) : ∀ {l : List α}, (l.Pairwise fun x y => ¬ c y x < 0) → SrtC c (ddL l)
  | [], _ => List.Pairwise.nil
  | [y], _ => by simp [ddL, SrtC]
  | y :: z :: r, hp => by
    obtain ⟨a1, a2⟩ := List.pairwise_cons.1 hp
    have ih := ddL_srt h a2
    rw [ddL_cons]
    by_cases e : y = z
    · rw [if_pos e]; exact ih
    · rw [if_neg e]
      refine List.pairwise_cons.2 ⟨fun w hw => ?_, ih⟩
      have hw2 := (ddL_mem _ _).1 hw
      have h1 := a1 w hw2
      have hyz : c y z < 0 := by
        have h2 := a1 z (by simp)
        have h3 := h.anti y z
        have : c y z ≠ 0 := fun e' => e (h.eq0 _ _ e')
        omega
      rcases List.mem_cons.1 hw2 with e1 | e1
      · subst e1; exact hyz
      · have h4 := (List.pairwise_cons.1 a2).1 w e1
        have h5 := h.anti z w
        by_cases e2 : c z w = 0
        · rw [← h.eq0 _ _ e2]; exact hyz
        · exact h.trans y z w hyz (by omega)
def srtL (c : α → α → Int) (l : List α) : List α := l.mergeSort fun x y => !(ltOf c) y x
theorem srtL_mem {l : List α} {x : α} : x ∈ srtL c l ↔ x ∈ l := by unfold srtL; exact List.mem_mergeSort
theorem srtL_len {l : List α} : (srtL c l).length = l.length := by unfold srtL; exact List.length_mergeSort l
theorem srtL_pw (h : TC c) (l : List α) : (srtL c l).Pairwise fun x y => ¬ c y x < 0 := by
  have h1 := List.pairwise_mergeSort (le := fun x y : α => !(ltOf c) y x) (fun a b d h1 h2 => by
    simp only [Bool.not_eq_true'] at *
    exact h.swo.ntrans _ _ _ h2 h1) (fun a b => by
    simp only [Bool.or_eq_true, Bool.not_eq_true', ltOf, decide_eq_false_iff_not]
    have := h.anti a b
    omega) l
  exact h1.imp fun {x y} hxy => by simpa [ltOf] using hxy
/-- A list in order, each once. -/
def canL [DecidableEq α] (c : α → α → Int) (l : List α) : List α := ddL (srtL c l)
theorem canL_mem [DecidableEq α] {l : List α} {x : α} : x ∈ canL c l ↔ x ∈ l := by unfold canL; rw [ddL_mem, srtL_mem]
theorem canL_srt [DecidableEq α] (h : TC c) (l : List α) : SrtC c (canL c l) := ddL_srt h (srtL_pw h l)
theorem canL_eq [DecidableEq α] (h : TC c) {l l' : List α} (hs : SrtC c l') (hm : ∀ x, x ∈ l ↔ x ∈ l') : canL c l = l' := (canL_srt h l).unique h hs fun x => by rw [canL_mem]; exact hm x
/-- One more, in order. -/
def putL (c : α → α → Int) (l : List α) (x : α) : List α := l.filter (fun y => decide (c y x < 0)) ++ x :: l.filter (fun y => decide (c x y < 0))
end
end Go.Gv

namespace Go.Gv

section
variable {C : CC}
/-- Behind a loop: one of the states J, seen through G. -/
def outK (id : Nat) (S : Type) (G : S → Env) (J : S → Prop) (Q : NExit → Env → Prop) : NExit → Env → Prop := fun t e => match t with
  | .ext i => if i = id then ∃ s, J s ∧ Weak e (G s) else Q (.ext i) e
  | t => Q t e
variable {Q : NExit → Env → Prop} {e : Env}
@[simp] theorem endW_out_nrm {id S G J u} : endW (outK id S G J Q) u .nrm e = endW Q ⟨⟩ .nrm e := _root_.id rfl
@[simp] theorem endW_out_ret {id S G J u} : endW (outK id S G J Q) u .ret e = endW Q ⟨⟩ .ret e := _root_.id rfl
@[simp] theorem endW_out_ext {id S G J u i} : endW (outK id S G J Q) u (.ext i) e = if i = id then ∃ s, J s ∧ Weak e (G s) else endW Q ⟨⟩ (.ext i) e := _root_.id rfl
/-- The same for a piece of code: behind it is one of the states J. -/
def midK (S : Type) (G : S → Env) (J : S → Prop) (Q : NExit → Env → Prop) : NExit → Env → Prop := fun t e => match t with
  | .nrm => ∃ s, J s ∧ Weak e (G s)
  | t => Q t e
@[simp] theorem endW_mid_nrm {S G J u} : endW (midK S G J Q) u .nrm e = ∃ s, J s ∧ Weak e (G s) := _root_.id rfl
@[simp] theorem endW_mid_ret {S G J u} : endW (midK S G J Q) u .ret e = endW Q ⟨⟩ .ret e := _root_.id rfl
@[simp] theorem endW_mid_ext {S G J u i} : endW (midK S G J Q) u (.ext i) e = endW Q ⟨⟩ (.ext i) e := _root_.id rfl
end
@[simp] theorem rowW_map {C : CC} {hs : Option (List Nat)} {K : Env → Prop} {ns : List NOper} {dst : Option Nat} {u : Tag (hs, K, ns)} {e : Env} {R : List Nat} {acc : List (List Nat × List Nat)} {α : Type} [Inhabited α] {n : Nat} {ag : Bool} {p : Pa} {xs : List α} {f : α → List D} {i off : Nat} :
    rowW C hs K ns dst u e R acc n ag p (xs.map f) i off = (i < xs.length ∧ off + n ≤ (f xs[i]!).length ∧ match ag with
        | true => ((((f xs[i]!).drop off).take n).all isV = true → dW C hs K ns dst ⟨⟩ e R acc (.agg (((f xs[i]!).drop off).take n))) ∧
            ((((f xs[i]!).drop off).take n).all isV = false → dW C hs K ns dst ⟨⟩ e R acc (.agx ((((f xs[i]!).drop off).take n).mapIdx fun j c => ldc p i (off + j) c)))
        | false => dW C hs K ns dst ⟨⟩ e R acc (ldc p i off (((f xs[i]!).drop off).headD .any))) := by
  apply propext
  constructor
  · rintro ⟨r, h, h1, h2⟩
    rw [List.getElem?_map, Option.map_eq_some_iff] at h
    obtain ⟨x, hx, rfl⟩ := h
    obtain ⟨hi, rfl⟩ := List.getElem?_eq_some_iff.1 hx
    rw [getElem!_pos xs i hi]
    refine ⟨hi, h1, ?_⟩
    cases ag <;> exact h2
  · rintro ⟨hi, h1, h2⟩
    rw [getElem!_pos xs i hi] at h1 h2
    refine rowW_of (r := f xs[i]) (by rw [List.getElem?_map, List.getElem?_eq_getElem hi]; rfl) h1 ?_
    cases ag <;> exact h2
@[simp] theorem kill1_ptx {b all ks n} : kill1 ((b, all) :: ks) (.ptx n) = if n.any (ment1 b all) then .any else kill1 ks (.ptx n) := by
  have h : kill1 ((b, all) :: ks) (.ptx n) = bif (n.any (ment1 b all) || mentL ks (.ptx n)) then .any else .ptx n := kill1_eq ..
  rw [h, kill1_eq]
  cases n.any (ment1 b all) <;> rfl
@[simp] theorem kill1_tpx {b all ks n} : kill1 ((b, all) :: ks) (.tpx n) = if n.any (ment1 b all) then .any else kill1 ks (.tpx n) := by
  have h : kill1 ((b, all) :: ks) (.tpx n) = bif (n.any (ment1 b all) || mentL ks (.tpx n)) then .any else .tpx n := kill1_eq ..
  rw [h, kill1_eq]
  cases n.any (ment1 b all) <;> rfl
@[simp] theorem ment1_slx {b all n es} : ment1 b all (slx n es) = false := by cases n <;> cases es <;> rfl
@[simp] theorem ment1_ref {b all p k n} : ment1 b all (.ref p k n) = mentP b all p := _root_.id rfl
@[simp] theorem ment1_adr {b all p k n} : ment1 b all (.adr p k n) = mentP b all p := _root_.id rfl
@[simp] theorem ment1_mrf {b all c} : ment1 b all (.mrf c) = (all && c == b) := _root_.id rfl
@[simp] theorem ment1_int {b all k n} : ment1 b all (.int k n) = false := _root_.id rfl
@[simp] theorem ment1_bool {b all n} : ment1 b all (.bool n) = false := _root_.id rfl
@[simp] theorem ment1_str {b all n} : ment1 b all (.str n) = false := _root_.id rfl
@[simp] theorem ment1_nils {b all} : ment1 b all .nils = false := _root_.id rfl
@[simp] theorem ment1_nilp {b all} : ment1 b all .nilp = false := _root_.id rfl
@[simp] theorem ment1_sl {b all n} : ment1 b all (.sl n) = false := _root_.id rfl
@[simp] theorem ment1_ptr {b all n} : ment1 b all (.ptr n) = false := _root_.id rfl
@[simp] theorem ment1_fn {b all g n} : ment1 b all (.fn g n) = false := _root_.id rfl
@[simp] theorem kill1_mrf {b all ks c} : kill1 ((b, all) :: ks) (.mrf c) = if (all && c == b) then .any else kill1 ks (.mrf c) := by
  have h : kill1 ((b, all) :: ks) (.mrf c) = bif ((all && c == b) || mentL ks (.mrf c)) then .any else .mrf c := kill1_eq ..
  rw [h, kill1_eq]
  cases all && c == b <;> rfl
end Go.Gv

namespace Go.Gv
section
variable {C : CC} {hs : Option (List Nat)} {K : Env → Prop} {ns : List NOper} {dst : Option Nat} {u : Tag (hs, K, ns)} {e : Env} {R : List Nat} {acc : List (List Nat × List Nat)}
theorem idxW_some {sz : Nat} {es : List (List D)} {i : Nat} {c : List D} (h : es[i]? = some c) : idxW C hs K ns dst u e R acc sz es i = (c.length = sz ∧ dW C hs K ns dst ⟨⟩ e R acc (.ptr c)) := by
  apply propext
  unfold idxW dW
  rw [h]
  exact ⟨fun ⟨_, h1, h2⟩ => by cases h1; exact h2, fun h2 => ⟨c, rfl, h2⟩⟩
theorem rowW_some {n : Nat} {ag : Bool} {p : Pa} {es : List (List D)} {i off : Nat} {r : List D} (hr : es[i]? = some r) : rowW C hs K ns dst u e R acc n ag p es i off = (off + n ≤ r.length ∧ match ag with
        | true => (((r.drop off).take n).all isV = true → dW C hs K ns dst ⟨⟩ e R acc (.agg ((r.drop off).take n))) ∧
            (((r.drop off).take n).all isV = false → dW C hs K ns dst ⟨⟩ e R acc (.agx (((r.drop off).take n).mapIdx fun j c => ldc p i (off + j) c)))
        | false => dW C hs K ns dst ⟨⟩ e R acc (ldc p i off ((r.drop off).headD .any))) := by
  apply propext
  constructor
  · rintro ⟨r', h, h1, h2⟩
    rw [hr] at h
    cases h
    refine ⟨h1, ?_⟩
    cases ag <;> exact h2
  · rintro ⟨h1, h2⟩
    refine rowW_of hr h1 ?_
    cases ag <;> exact h2
@[simp] theorem idxW_at0 {sz : Nat} {c0 : List D} {es : List (List D)} : idxW C hs K ns dst u e R acc sz (c0 :: es) 0 = (c0.length = sz ∧ dW C hs K ns dst ⟨⟩ e R acc (.ptr c0)) := idxW_some rfl
theorem rowW_at0 {n : Nat} {ag : Bool} {p : Pa} {off : Nat} {c0 : List D} {es : List (List D)} : rowW C hs K ns dst u e R acc n ag p (c0 :: es) 0 off = (off + n ≤ c0.length ∧ match ag with
        | true => (((c0.drop off).take n).all isV = true → dW C hs K ns dst ⟨⟩ e R acc (.agg ((c0.drop off).take n))) ∧
            (((c0.drop off).take n).all isV = false → dW C hs K ns dst ⟨⟩ e R acc (.agx (((c0.drop off).take n).mapIdx fun j c => ldc p 0 (off + j) c)))
        | false => dW C hs K ns dst ⟨⟩ e R acc (ldc p 0 off ((c0.drop off).headD .any))) := rowW_some rfl
@[simp] theorem idxW_at1 {sz : Nat} {c0 c1 : List D} {es : List (List D)} : idxW C hs K ns dst u e R acc sz (c0 :: c1 :: es) 1 = (c1.length = sz ∧ dW C hs K ns dst ⟨⟩ e R acc (.ptr c1)) := idxW_some rfl
theorem rowW_at1 {n : Nat} {ag : Bool} {p : Pa} {off : Nat} {c0 c1 : List D} {es : List (List D)} : rowW C hs K ns dst u e R acc n ag p (c0 :: c1 :: es) 1 off = (off + n ≤ c1.length ∧ match ag with
        | true => (((c1.drop off).take n).all isV = true → dW C hs K ns dst ⟨⟩ e R acc (.agg ((c1.drop off).take n))) ∧
            (((c1.drop off).take n).all isV = false → dW C hs K ns dst ⟨⟩ e R acc (.agx (((c1.drop off).take n).mapIdx fun j c => ldc p 1 (off + j) c)))
        | false => dW C hs K ns dst ⟨⟩ e R acc (ldc p 1 off ((c1.drop off).headD .any))) := rowW_some rfl
@[simp] theorem idxW_at2 {sz : Nat} {c0 c1 c2 : List D} {es : List (List D)} : idxW C hs K ns dst u e R acc sz (c0 :: c1 :: c2 :: es) 2 = (c2.length = sz ∧ dW C hs K ns dst ⟨⟩ e R acc (.ptr c2)) := idxW_some rfl
theorem rowW_at2 {n : Nat} {ag : Bool} {p : Pa} {off : Nat} {c0 c1 c2 : List D} {es : List (List D)} : rowW C hs K ns dst u e R acc n ag p (c0 :: c1 :: c2 :: es) 2 off = (off + n ≤ c2.length ∧ match ag with
        | true => (((c2.drop off).take n).all isV = true → dW C hs K ns dst ⟨⟩ e R acc (.agg ((c2.drop off).take n))) ∧
            (((c2.drop off).take n).all isV = false → dW C hs K ns dst ⟨⟩ e R acc (.agx (((c2.drop off).take n).mapIdx fun j c => ldc p 2 (off + j) c)))
        | false => dW C hs K ns dst ⟨⟩ e R acc (ldc p 2 off ((c2.drop off).headD .any))) := rowW_some rfl
@[simp] theorem idxW_at3 {sz : Nat} {c0 c1 c2 c3 : List D} {es : List (List D)} : idxW C hs K ns dst u e R acc sz (c0 :: c1 :: c2 :: c3 :: es) 3 = (c3.length = sz ∧ dW C hs K ns dst ⟨⟩ e R acc (.ptr c3)) := idxW_some rfl
theorem rowW_at3 {n : Nat} {ag : Bool} {p : Pa} {off : Nat} {c0 c1 c2 c3 : List D} {es : List (List D)} : rowW C hs K ns dst u e R acc n ag p (c0 :: c1 :: c2 :: c3 :: es) 3 off = (off + n ≤ c3.length ∧ match ag with
        | true => (((c3.drop off).take n).all isV = true → dW C hs K ns dst ⟨⟩ e R acc (.agg ((c3.drop off).take n))) ∧
            (((c3.drop off).take n).all isV = false → dW C hs K ns dst ⟨⟩ e R acc (.agx (((c3.drop off).take n).mapIdx fun j c => ldc p 3 (off + j) c)))
        | false => dW C hs K ns dst ⟨⟩ e R acc (ldc p 3 off ((c3.drop off).headD .any))) := rowW_some rfl
@[simp] theorem idxW_at4 {sz : Nat} {c0 c1 c2 c3 c4 : List D} {es : List (List D)} : idxW C hs K ns dst u e R acc sz (c0 :: c1 :: c2 :: c3 :: c4 :: es) 4 = (c4.length = sz ∧ dW C hs K ns dst ⟨⟩ e R acc (.ptr c4)) := idxW_some rfl
theorem rowW_at4 {n : Nat} {ag : Bool} {p : Pa} {off : Nat} {c0 c1 c2 c3 c4 : List D} {es : List (List D)} : rowW C hs K ns dst u e R acc n ag p (c0 :: c1 :: c2 :: c3 :: c4 :: es) 4 off = (off + n ≤ c4.length ∧ match ag with
        | true => (((c4.drop off).take n).all isV = true → dW C hs K ns dst ⟨⟩ e R acc (.agg ((c4.drop off).take n))) ∧
            (((c4.drop off).take n).all isV = false → dW C hs K ns dst ⟨⟩ e R acc (.agx (((c4.drop off).take n).mapIdx fun j c => ldc p 4 (off + j) c)))
        | false => dW C hs K ns dst ⟨⟩ e R acc (ldc p 4 off ((c4.drop off).headD .any))) := rowW_some rfl
attribute [simp] rowW_at0 rowW_at1 rowW_at2 rowW_at3 rowW_at4
end
end Go.Gv

namespace Go.Gv
section
variable {C : CC} {hs : Option (List Nat)} {K : Env → Prop} {ns : List NOper} {dst : Option Nat} {u : Tag (hs, K, ns)} {e : Env} {R : List Nat} {acc : List (List Nat × List Nat)}
@[simp] theorem idxW_at5 {sz : Nat} {c0 c1 c2 c3 c4 c5 : List D} {es : List (List D)} : idxW C hs K ns dst u e R acc sz (c0 :: c1 :: c2 :: c3 :: c4 :: c5 :: es) 5 = (c5.length = sz ∧ dW C hs K ns dst ⟨⟩ e R acc (.ptr c5)) := idxW_some rfl
@[simp] theorem rowW_at5 {n : Nat} {ag : Bool} {p : Pa} {off : Nat} {c0 c1 c2 c3 c4 c5 : List D} {es : List (List D)} : rowW C hs K ns dst u e R acc n ag p (c0 :: c1 :: c2 :: c3 :: c4 :: c5 :: es) 5 off = (off + n ≤ c5.length ∧ match ag with
        | true => (((c5.drop off).take n).all isV = true → dW C hs K ns dst ⟨⟩ e R acc (.agg ((c5.drop off).take n))) ∧
            (((c5.drop off).take n).all isV = false → dW C hs K ns dst ⟨⟩ e R acc (.agx (((c5.drop off).take n).mapIdx fun j c => ldc p 5 (off + j) c)))
        | false => dW C hs K ns dst ⟨⟩ e R acc (ldc p 5 off ((c5.drop off).headD .any))) := rowW_some rfl
@[simp] theorem idxW_at6 {sz : Nat} {c0 c1 c2 c3 c4 c5 c6 : List D} {es : List (List D)} : idxW C hs K ns dst u e R acc sz (c0 :: c1 :: c2 :: c3 :: c4 :: c5 :: c6 :: es) 6 = (c6.length = sz ∧ dW C hs K ns dst ⟨⟩ e R acc (.ptr c6)) := idxW_some rfl
@[simp] theorem rowW_at6 {n : Nat} {ag : Bool} {p : Pa} {off : Nat} {c0 c1 c2 c3 c4 c5 c6 : List D} {es : List (List D)} : rowW C hs K ns dst u e R acc n ag p (c0 :: c1 :: c2 :: c3 :: c4 :: c5 :: c6 :: es) 6 off = (off + n ≤ c6.length ∧ match ag with
        | true => (((c6.drop off).take n).all isV = true → dW C hs K ns dst ⟨⟩ e R acc (.agg ((c6.drop off).take n))) ∧
            (((c6.drop off).take n).all isV = false → dW C hs K ns dst ⟨⟩ e R acc (.agx (((c6.drop off).take n).mapIdx fun j c => ldc p 6 (off + j) c)))
        | false => dW C hs K ns dst ⟨⟩ e R acc (ldc p 6 off ((c6.drop off).headD .any))) := rowW_some rfl
@[simp] theorem idxW_at7 {sz : Nat} {c0 c1 c2 c3 c4 c5 c6 c7 : List D} {es : List (List D)} : idxW C hs K ns dst u e R acc sz (c0 :: c1 :: c2 :: c3 :: c4 :: c5 :: c6 :: c7 :: es) 7 = (c7.length = sz ∧ dW C hs K ns dst ⟨⟩ e R acc (.ptr c7)) := idxW_some rfl
@[simp] theorem rowW_at7 {n : Nat} {ag : Bool} {p : Pa} {off : Nat} {c0 c1 c2 c3 c4 c5 c6 c7 : List D} {es : List (List D)} : rowW C hs K ns dst u e R acc n ag p (c0 :: c1 :: c2 :: c3 :: c4 :: c5 :: c6 :: c7 :: es) 7 off = (off + n ≤ c7.length ∧ match ag with
        | true => (((c7.drop off).take n).all isV = true → dW C hs K ns dst ⟨⟩ e R acc (.agg ((c7.drop off).take n))) ∧
            (((c7.drop off).take n).all isV = false → dW C hs K ns dst ⟨⟩ e R acc (.agx (((c7.drop off).take n).mapIdx fun j c => ldc p 7 (off + j) c)))
        | false => dW C hs K ns dst ⟨⟩ e R acc (ldc p 7 off ((c7.drop off).headD .any))) := rowW_some rfl
end
end Go.Gv

namespace Go.Gv

def isLetter (c : Int) : Bool := (97 ≤ c && c ≤ 122) || (65 ≤ c && c ≤ 90)
def isDigit (c : Int) : Bool := 48 ≤ c && c ≤ 57
def isWordB (c : UInt8) : Bool := isLetter c.toNat || isDigit c.toNat || c.toNat == 95
def wordLen (s : List UInt8) : Nat := (s.takeWhile isWordB).length
def fits (n : Int) : Bool := -1125899906842624 ≤ n && n ≤ 1125899906842624
def isName (s : List UInt8) : Bool := s ≠ [] && s.length ≤ 20 && isLetter (s[0]!).toNat && wordLen s == s.length

theorem wordLen_le (s : List UInt8) : wordLen s ≤ s.length := by unfold wordLen; exact (List.takeWhile_prefix _).length_le
theorem tw_get {α : Type} (p : α → Bool) : ∀ (s : List α) (i : Nat) (h : i < s.length), i ≤ (s.takeWhile p).length → (p s[i] = true → i + 1 ≤ (s.takeWhile p).length) ∧ (p s[i] = false → i = (s.takeWhile p).length)
  | [], i, h, _ => by simp at h
  | x :: s, 0, h, _ => by
    constructor <;> intro h1 <;> simp at h1 <;> simp [h1]
  | x :: s, i + 1, h, h2 => by
    rw [List.takeWhile_cons] at h2 ⊢
    split at h2
    · rename_i hp
      simp only [hp, if_true, List.length_cons, List.getElem_cons_succ] at h2 ⊢
      have := tw_get p s i (by simpa using h) (by omega)
      exact ⟨fun e => by have := this.1 e; omega, fun e => by have := this.2 e; omega⟩
    · simp at h2
theorem wordLen_more {s : List UInt8} {i : Nat} (h : i < s.length) (hi : i ≤ wordLen s) : isWordB s[i] = true → i + 1 ≤ wordLen s := (tw_get isWordB s i h hi).1
theorem wordLen_stop {s : List UInt8} {i : Nat} (h : i < s.length) (hi : i ≤ wordLen s) : isWordB s[i] = false → i = wordLen s := (tw_get isWordB s i h hi).2
theorem wrap_i64 {n m : Int} (h : n = m) (h2 : -9223372036854775808 ≤ m ∧ m < 9223372036854775808) : IntKind.wrap .i64 n = m := by
  subst h
  have e1 : IntKind.i64.signed = true := rfl
  have e2 : (2 ^ (IntKind.i64.bits - 1) : Int) = 9223372036854775808 := rfl
  have e3 : (2 ^ IntKind.i64.bits : Int) = 18446744073709551616 := rfl
  unfold IntKind.wrap
  simp only [e1, e2, e3, Bool.true_and, decide_eq_true_eq]
  split <;> omega

set_option linter.unusedSimpArgs false
variable {C : CC} (hC : Closed prog C)
include hC
theorem fits_c (n : Int) : C 89 [.int .i64 n] (.bool (fits n)) [] := by
  refine start hC (nf := N89_table_fits) rfl rfl ?_
  simp [N89_table_fits, fits]
  refine brB_of (fun h => ?_) (fun h => ?_) <;> simp at h <;> simp [h] <;> omega
theorem digit_c (c : Int) : C 88 [.int .u8 c] (.bool (isDigit c)) [] := by
  refine start hC (nf := N88_decimal_digit) rfl rfl ?_
  simp [N88_decimal_digit, isDigit]
  refine brB_of (fun h => ?_) (fun h => ?_) <;> simp at h <;> simp [h] <;> omega
theorem letter_c (c : Int) : C 70 [.int .u8 c] (.bool (isLetter c)) [] := by
  refine start hC (nf := N70_decimal_letter) rfl rfl ?_
  simp [N70_decimal_letter, isLetter]
  repeat' (refine brB_of (fun h => ?_) (fun h => ?_) <;> simp at h <;> simp [h] <;> try omega)
theorem word_c (s : List UInt8) (hs : s.length < 2 ^ 62) : C 71 [.str s] (.int .i64 (wordLen s)) [] := by
  refine start hC (nf := N71_decimal_word) rfl rfl ?_
  simp [N71_decimal_word]
  refine loop_of Nat (fun i => [(0, .str s), (3, .int .i64 i)]) (fun i => i ≤ wordLen s) (fun i => wordLen s - i) 0 (by simp) (by simp) ?_
  intro i hi
  have hle : wordLen s ≤ s.length := wordLen_le s
  by_cases hl : i < s.length
  · simp [hl]
    refine callW_of (letter_c hC _) (.inl rfl) ?_
    have hstep : isWordB s[i] = true → i + 1 ≤ wordLen s := wordLen_more hl hi
    have hstop : isWordB s[i] = false → i = wordLen s := wordLen_stop hl hi
    simp only [isWordB] at hstep hstop
    have hw : IntKind.wrap .i64 ((i : Int) + 1) = ((i + 1 : Nat) : Int) := wrap_i64 (by omega) (by omega)
    cases h1 : isLetter s[i].toNat with
    | true => 
      simp [h1, hw] at hstep ⊢
      exact ⟨i + 1, by omega, by omega, rfl⟩
    | false =>
      simp [h1, hl]
      refine callW_of (digit_c hC _) (.inl rfl) ?_
      cases h2 : isDigit s[i].toNat with
      | true =>
        simp [h1, h2, hw] at hstep ⊢
        exact ⟨i + 1, by omega, by omega, rfl⟩
      | false =>
        simp [hl]
        refine brB_of (fun h3 => ?_) (fun h3 => ?_) <;> simp at h3
        · simp [hw, hl]
          have := hstep (by simp [show s[i].toNat = 95 by omega])
          exact ⟨i + 1, this, by omega, rfl⟩
        · have h4 : ¬ s[i].toNat = 95 := by omega
          simp [h1, h2, h4] at hstop ⊢
          omega
  · simp [hl]
    have : i = wordLen s := by omega
    omega
theorem IsName_c (s : List UInt8) : C 58 [.str s] (.bool (isName s)) [] := by
  refine start hC (nf := N58_decimal_IsName) rfl rfl ?_
  simp [N58_decimal_IsName]
  refine brB_of (fun h => ?_) (fun h => ?_) <;> simp at h
  · have hp : 0 < s.length := List.length_pos_iff.2 h
    simp [h, hp]
    refine brB_of (fun h2 => ?_) (fun h2 => ?_) <;> simp at h2
    · simp [h2, hp]
      refine callW_of (letter_c hC _) (.inl rfl) ?_
      simp
      refine brB_of (fun h3 => ?_) (fun h3 => ?_)
      · simp [h3, h2]
        refine callW_of (word_c hC s (by omega)) (.inl rfl) ?_
        simp [isName, h, h3, show s.length ≤ 20 by omega, hp, Int.ofNat_inj]
        rw [Bool.eq_iff_iff]; simp
      · simp [isName, h, h3, hp]
    · simp [h2, isName]
      omega
  · subst h
    simp [isName]
end Go.Gv

set_option linter.unusedSimpArgs false
namespace Go.Gv

/-- A slice of integers: whether it is nil if it is empty, and the integers. -/
structure SlI where
  n : Bool
  l : List Int
  deriving Inhabited
def slI (x : SlI) : D := slx x.n (x.l.map fun n => [.int .i64 n])
def knD (k : Int × Int) : List D := [.int .i64 k.1, .int .i64 k.2]
/-- A section. -/
structure Sec where
  name : List UInt8
  height : Int
  price : Int
  areaN : Bool
  area : List (Int × Int)
  convN : Bool
  conv : List (Int × Int)
  deriving Inhabited
def secC (s : Sec) : List D := [.str s.name, .int .i64 s.height, .int .i64 s.price, slx s.areaN (s.area.map knD), slx s.convN (s.conv.map knD)]

def idxD {α : Type} (p : α → Bool) (xs : List α) : Int := match xs.findIdx? p with
  | some i => i
  | none => -1
theorem idxD_step {α : Type} {p : α → Bool} {xs : List α} {i : Nat} (hj : ∀ (j : Nat) (h : j < xs.length), j < i → p xs[j] = false) (hi : i < xs.length) (h : p xs[i] = true) : idxD p xs = i := by
  have : xs.findIdx? p = some i := by
    rw [List.findIdx?_eq_some_iff_getElem]
    exact ⟨hi, h, fun j hji => by simp [hj j (by omega) hji]⟩
  simp [idxD, this]
theorem idxD_none {α : Type} {p : α → Bool} {xs : List α} (hj : ∀ (j : Nat) (h : j < xs.length), p xs[j] = false) : idxD p xs = -1 := by
  have : xs.findIdx? p = none := by
    rw [List.findIdx?_eq_none_iff]
    intro x hx
    obtain ⟨j, h, rfl⟩ := List.mem_iff_getElem.1 hx
    exact hj j h
  simp [idxD, this]
theorem idxD_any {α : Type} (p : α → Bool) (xs : List α) : decide (0 ≤ idxD p xs) = xs.any p := by
  unfold idxD
  split
  · rename_i i h
    rw [List.findIdx?_eq_some_iff_getElem] at h
    obtain ⟨h1, h2, _⟩ := h
    have : xs.any p = true := List.any_eq_true.2 ⟨_, List.getElem_mem h1, h2⟩
    simp [this]
  · rename_i h
    rw [List.findIdx?_eq_none_iff] at h
    have : xs.any p = false := by rw [List.any_eq_false]; intro x hx; simp [h x hx]
    simp [this]

variable {C : CC} (hC : Closed prog C)
include hC
theorem idxInt_c {b : Bool} {xs : List Int} {g : Nat} {cs : List D} (p : Int → Bool) (hs : xs.length < 2 ^ 62) (hp : ∀ x ∈ xs, C g (.int .i64 x :: cs) (.bool (p x)) []) : C 35 [slx b (xs.map fun x => [.int .i64 x]), .fn g cs] (.int .i64 (idxD p xs)) [] := by
  refine start hC (nf := N35_slices_IndexFunc__int_int) rfl rfl ?_
  simp [N35_slices_IndexFunc__int_int]
  refine loop_of Nat (fun i => [(0, slx b (xs.map fun x => [.int .i64 x])), (1, .fn g cs), (7, .int .i64 xs.length), (8, .int .i64 i)]) (fun i => i ≤ xs.length ∧ ∀ (j : Nat) (h : j < xs.length), j < i → p xs[j] = false) (fun i => xs.length - i) 0 (by simp) (by simp) ?_
  rintro i ⟨hi, hj⟩
  simp
  refine brB_of (fun h => ?_) (fun h => ?_) <;> simp [h] <;> simp at h
  · have hw : IntKind.wrap .i64 ((i : Int) + 1) = ((i + 1 : Nat) : Int) := wrap_i64 (by omega) (by omega)
    have hc := hp _ (List.getElem_mem h)
    simp [h, List.getElem_map] at hc ⊢
    refine callW_of hc (.inl rfl) ?_
    simp
    refine brB_of (fun h1 => ?_) (fun h1 => ?_) <;> simp [h1, hw]
    · rw [idxD_step hj h h1]
    · refine ⟨i + 1, ⟨by omega, fun j hl hjj => ?_⟩, by omega, rfl⟩
      rcases Nat.lt_succ_iff_lt_or_eq.1 hjj with h2 | rfl
      · exact hj j hl h2
      · exact h1
  · rw [idxD_none (fun j hl => hj j hl (by omega))]
theorem hasInt_c {b : Bool} {xs : List Int} {g : Nat} {cs : List D} (p : Int → Bool) (hs : xs.length < 2 ^ 62) (hp : ∀ x ∈ xs, C g (.int .i64 x :: cs) (.bool (p x)) []) : C 11 [slx b (xs.map fun x => [.int .i64 x]), .fn g cs] (.bool (xs.any p)) [] := by
  refine start hC (nf := N11_slices_ContainsFunc__int_int) rfl rfl ?_
  simp [N11_slices_ContainsFunc__int_int]
  refine callW_of (idxInt_c hC p hs hp) (.inl rfl) ?_
  simp [idxD_any]
theorem idxSec_c {b : Bool} {xs : List Sec} {g : Nat} {cs : List D} (p : Sec → Bool) (hs : xs.length < 2 ^ 62) (hp : ∀ x ∈ xs, C g (.agg (secC x) :: cs) (.bool (p x)) []) : C 52 [slx b (xs.map fun x => secC x), .fn g cs] (.int .i64 (idxD p xs)) [] := by
  refine start hC (nf := N52_slices_IndexFunc__api_Section_api_Section) rfl rfl ?_
  simp [N52_slices_IndexFunc__api_Section_api_Section]
  refine loop_of Nat (fun i => [(0, slx b (xs.map fun x => secC x)), (1, .fn g cs), (7, .int .i64 xs.length), (8, .int .i64 i)]) (fun i => i ≤ xs.length ∧ ∀ (j : Nat) (h : j < xs.length), j < i → p xs[j] = false) (fun i => xs.length - i) 0 (by simp) (by simp) ?_
  rintro i ⟨hi, hj⟩
  simp
  refine brB_of (fun h => ?_) (fun h => ?_) <;> simp [h] <;> simp at h
  · have hw : IntKind.wrap .i64 ((i : Int) + 1) = ((i + 1 : Nat) : Int) := wrap_i64 (by omega) (by omega)
    have hc := hp _ (List.getElem_mem h)
    simp [h, secC] at hc ⊢
    refine callW_of hc (.inl rfl) ?_
    simp
    refine brB_of (fun h1 => ?_) (fun h1 => ?_) <;> simp [h1, hw]
    · rw [idxD_step hj h h1]
    · refine ⟨i + 1, ⟨by omega, fun j hl hjj => ?_⟩, by omega, rfl⟩
      rcases Nat.lt_succ_iff_lt_or_eq.1 hjj with h2 | rfl
      · exact hj j hl h2
      · exact h1
  · rw [idxD_none (fun j hl => hj j hl (by omega))]
theorem hasSec_c {b : Bool} {xs : List Sec} {g : Nat} {cs : List D} (p : Sec → Bool) (hs : xs.length < 2 ^ 62) (hp : ∀ x ∈ xs, C g (.agg (secC x) :: cs) (.bool (p x)) []) : C 45 [slx b (xs.map fun x => secC x), .fn g cs] (.bool (xs.any p)) [] := by
  refine start hC (nf := N45_slices_ContainsFunc__api_Section_api_Section) rfl rfl ?_
  simp [N45_slices_ContainsFunc__api_Section_api_Section]
  refine callW_of (idxSec_c hC p hs hp) (.inl rfl) ?_
  simp [idxD_any]
end Go.Gv

set_option linter.unusedSimpArgs false
namespace Go.Gv
abbrev Edg := Nat × Nat
def edK (e : Edg) : List D := knD ((e.1 : Int), (e.2 : Int))
def edI (e : Edg) : Int × Int := ((e.1 : Int), (e.2 : Int))
theorem edK_map (es : List Edg) : es.map edK = (es.map edI).map knD := by simp [edK, edI]
def intL (l : List Nat) : List (List D) := l.map fun k : Nat => [.int .i64 (k : Int)]
def inG (n : Nat) (es : List Edg) : Prop := ∀ e ∈ es, e.1 < n ∧ e.2 < n
/-- To which nodes edges lead from a node, ascending. -/
def nxt (n : Nat) (es : List Edg) (i : Nat) : List Nat := (List.range n).filter fun k => es.contains (i, k)
theorem mem_nxt {n : Nat} {es : List Edg} {i k : Nat} : k ∈ nxt n es i ↔ k < n ∧ (i, k) ∈ es := by simp [nxt]
theorem nxt_len (n : Nat) (es : List Edg) (i : Nat) : (nxt n es i).length ≤ n := by
  have := List.length_filter_le (fun k => es.contains (i, k)) (List.range n)
  simpa [nxt] using this
theorem set_rm {α : Type} {n k : Nat} {f : Nat → α} (x : α) : ((List.range n).map f).set k x = (List.range n).map fun v => if v = k then x else f v := by
  apply List.ext_getElem
  · simp
  · intro i h1 h2
    simp only [List.getElem_set, List.getElem_map, List.getElem_range]
    by_cases e : k = i
    · rw [if_pos e, if_pos e.symm]
    · rw [if_neg e, if_neg (Ne.symm e)]
/-- The targets of edges, as they come. -/
def tgs (es : List Edg) (i : Nat) : List Nat := (es.filter fun e => e.1 == i).map (·.2)
theorem mem_tgs {es : List Edg} {i k : Nat} : k ∈ tgs es i ↔ (i, k) ∈ es := by
  unfold tgs
  simp only [List.mem_map, List.mem_filter, beq_iff_eq]
  constructor
  · rintro ⟨⟨a, b⟩, ⟨h1, h2⟩, h3⟩
    simp only at h2 h3
    subst h2 h3
    exact h1
  · intro h
    exact ⟨(i, k), ⟨h, rfl⟩, rfl⟩
theorem tgs_take {es : List Edg} {j : Nat} (hj : j < es.length) (v : Nat) : tgs (es.take (j + 1)) v = tgs (es.take j) v ++ (if es[j].1 = v then [es[j].2] else []) := by
  unfold tgs
  rw [List.take_succ_eq_append_getElem hj, List.filter_append, List.map_append]
  congr 1
  by_cases h : es[j].1 = v <;> simp [h]
theorem tgs_len (es : List Edg) (i : Nat) : (tgs es i).length ≤ es.length := by
  unfold tgs
  rw [List.length_map]
  exact List.length_filter_le _ _
/-- All predecessors of v are there. -/
def prOk (es : List Edg) (out : List Nat) (v : Nat) : Bool := es.all fun e => !(e.2 == v) || out.contains e.1
theorem prOk_iff {es : List Edg} {out : List Nat} {v : Nat} : prOk es out v = true ↔ ∀ u, (u, v) ∈ es → u ∈ out := by
  unfold prOk
  simp only [List.all_eq_true, Bool.or_eq_true, Bool.not_eq_true', beq_eq_false_iff_ne, List.contains_iff_mem]
  constructor
  · intro h u hu
    rcases h _ hu with h | h
    · exact absurd rfl h
    · exact h
  · rintro h ⟨a, b⟩ he
    by_cases e : b = v
    · subst e; exact .inr (h a he)
    · exact .inl e
def rdyL (n : Nat) (es : List Edg) (out : List Nat) : List Nat := (List.range n).filter fun v => !out.contains v && prOk es out v
theorem mem_rdyL {n : Nat} {es : List Edg} {out : List Nat} {v : Nat} : v ∈ rdyL n es out ↔ v < n ∧ v ∉ out ∧ ∀ u, (u, v) ∈ es → u ∈ out := by
  simp only [rdyL, List.mem_filter, List.mem_range, Bool.and_eq_true, Bool.not_eq_true', ← prOk_iff]
  simp
def stepO (n : Nat) (es : List Edg) (out : List Nat) : List Nat := match rdyL n es out with
  | [] => out
  | v :: _ => out ++ [v]
/-- The least order, as far as it goes: m steps of it. -/
def ordN (n : Nat) (es : List Edg) : Nat → List Nat
  | 0 => []
  | m + 1 => stepO n es (ordN n es m)
def ordF (n : Nat) (es : List Edg) : List Nat := ordN n es n
/-- How many nodes that are not there yet lead to k. -/
def cntW (n : Nat) (es : List Edg) (out : List Nat) (k : Nat) : Nat := ((List.range n).filter fun u => es.contains (u, k) && !out.contains u).length
/-- How many of the first i nodes lead to k. -/
def cntU (es : List Edg) (i k : Nat) : Nat := ((List.range i).filter fun u => es.contains (u, k)).length
end Go.Gv

set_option linter.unusedSimpArgs false
namespace Go.Gv
/-- What the library's functions on rows of whole numbers do. -/
structure SlC (C : CC) : Prop where
  sort : ∀ zs : List Int, zs.length < 2 ^ 40 → C 366 [.own 1 (zs.map fun n => [.int .i64 n])] .any [.own 1 ((zs.mergeSort fun x y => decide (x ≤ y)).map fun n => [.int .i64 n]), .nilp]
  compact : ∀ zs : List Int, zs.length < 2 ^ 40 → C 523 [.own 1 (zs.map fun n => [.int .i64 n])] .any [.own 1 ((Lib.compact zs).map fun n => [.int .i64 n]), .nils, .nils]
  insert : ∀ (zs : List Int) (i : Nat) (x : Int), i ≤ zs.length → zs.length < 2 ^ 40 → C 519 [.own 1 (zs.map fun n => [.int .i64 n]), .int .i64 i, .own 1 [[.int .i64 x]]] .any [.own 1 ((zs.take i ++ x :: zs.drop i).map fun n => [.int .i64 n]), .nils, .nils]
theorem strict_ext : ∀ {l l' : List Int}, l.Pairwise (· < ·) → l'.Pairwise (· < ·) → (∀ x, x ∈ l ↔ x ∈ l') → l = l'
  | [], [], _, _, _ => rfl
  | [], b :: _, _, _, h => by simpa using (h b).2 (by simp)
  | a :: _, [], _, _, h => by simpa using (h a).1 (by simp)
  | a :: l, b :: l', h1, h2, h => by
    rw [List.pairwise_cons] at h1 h2
    have e : a = b := by
      have x1 := (h a).1 (by simp)
      have x2 := (h b).2 (by simp)
      simp only [List.mem_cons] at x1 x2
      rcases x1 with x1 | x1
      · exact x1
      · rcases x2 with x2 | x2
        · exact x2.symm
        · have := h2.1 a x1; have := h1.1 b x2; omega
    subst e
    congr 1
    refine strict_ext h1.2 h2.2 fun x => ?_
    have := h x
    simp only [List.mem_cons] at this
    constructor
    · intro hx
      have h3 := h1.1 x hx
      rcases this.1 (.inr hx) with h4 | h4
      · omega
      · exact h4
    · intro hx
      have h3 := h2.1 x hx
      rcases this.2 (.inr hx) with h4 | h4
      · omega
      · exact h4
theorem compact_spec {d : Array Int} (hs : ∀ j, 0 < j → j < d.size → d[j - 1]! ≤ d[j]!) : ∀ m, m ≤ d.size → (Lib.compactUpTo d m).Pairwise (· < ·) ∧ (∀ x, x ∈ Lib.compactUpTo d m ↔ ∃ j, j < m ∧ d[j]! = x) ∧ ∀ x ∈ Lib.compactUpTo d m, x ≤ d[m - 1]!
  | 0, _ => by simp [Lib.compactUpTo]
  | m + 1, hm => by
    obtain ⟨h1, h2, h3⟩ := compact_spec hs m (by omega)
    rw [Lib.compactUpTo_succ]
    by_cases hk : Lib.keeps d m = true
    · rw [if_pos hk]
      have hlt : ∀ x ∈ Lib.compactUpTo d m, x < d[m]! := fun x hx => by
        have h4 := h3 x hx
        simp only [Lib.keeps, decide_eq_true_eq] at hk
        rcases hk with rfl | hk
        · obtain ⟨j, hj, _⟩ := (h2 x).1 hx; omega
        · rcases Nat.eq_zero_or_pos m with h0 | h0
          · subst h0; obtain ⟨j, hj, _⟩ := (h2 x).1 hx; omega
          · have := hs m h0 (by omega); omega
      refine ⟨List.pairwise_append.2 ⟨h1, by simp, fun a ha b hb => by simp at hb; subst hb; exact hlt a ha⟩, fun x => ?_, fun x hx => ?_⟩
      · simp only [List.mem_append, List.mem_singleton, h2]
        constructor
        · rintro (⟨j, hj, rfl⟩ | rfl)
          · exact ⟨j, by omega, rfl⟩
          · exact ⟨m, by omega, rfl⟩
        · rintro ⟨j, hj, rfl⟩
          by_cases e : j = m
          · exact .inr (by rw [e])
          · exact .inl ⟨j, by omega, rfl⟩
      · simp only [List.mem_append, List.mem_singleton] at hx
        rcases hx with hx | hx
        · exact Int.le_of_lt (hlt x hx)
        · rw [hx]; exact Int.le_refl _
    · rw [if_neg hk, List.append_nil]
      have hm0 : 0 < m := by
        rcases Nat.eq_zero_or_pos m with h | h
        · subst h; exact absurd (Lib.keeps_lt_one d 0 (by omega)) hk
        · exact h
      have he : d[m]! = d[m - 1]! := by
        apply Classical.byContradiction
        intro h
        exact hk (Lib.keeps_pos h)
      refine ⟨h1, fun x => ?_, fun x hx => ?_⟩
      · rw [h2]
        constructor
        · rintro ⟨j, hj, rfl⟩; exact ⟨j, by omega, rfl⟩
        · rintro ⟨j, hj, rfl⟩
          by_cases e : j = m
          · subst e; exact ⟨j - 1, by omega, he.symm⟩
          · exact ⟨j, by omega, rfl⟩
      · have := h3 x hx
        simp only [Nat.add_sub_cancel, he]
        exact this
/-- Sorted, each once: what follows a node. -/
theorem compact_sort {n : Nat} {es : List Edg} (hg : inG n es) (i : Nat) : Lib.compact (((tgs es i).map fun k : Nat => (k : Int)).mergeSort fun x y => decide (x ≤ y)) = (nxt n es i).map fun k : Nat => (k : Int) := by
  obtain ⟨zs, hz⟩ : ∃ zs, zs = ((tgs es i).map fun k : Nat => (k : Int)).mergeSort fun x y => decide (x ≤ y) := ⟨_, rfl⟩
  rw [← hz]
  have hp : zs.Pairwise (· ≤ ·) := by
    have h := List.pairwise_mergeSort (le := fun x y : Int => decide (x ≤ y)) (fun a b c h1 h2 => by simp at *; omega) (fun a b => by simp; omega) ((tgs es i).map fun k : Nat => (k : Int))
    rw [← hz] at h
    exact h.imp fun h => by simpa using h
  have hm : ∀ x, x ∈ zs ↔ ∃ k : Nat, (i, k) ∈ es ∧ (k : Int) = x := fun x => by
    rw [hz, List.mem_mergeSort, List.mem_map]
    simp only [mem_tgs]
  have hs : ∀ j, 0 < j → j < zs.toArray.size → zs.toArray[j - 1]! ≤ zs.toArray[j]! := fun j h1 h2 => by
    have h3 : j < zs.length := by simpa using h2
    rw [getElem!_pos zs.toArray (j - 1) (by simpa using (by omega : j - 1 < zs.length)), getElem!_pos zs.toArray j h2]
    exact List.pairwise_iff_getElem.1 hp (j - 1) j (by omega) h3 (by omega)
  obtain ⟨h1, h2, _⟩ := compact_spec hs zs.length (by simp)
  refine strict_ext h1 ?_ fun x => ?_
  · rw [List.pairwise_map]
    have : (nxt n es i).Pairwise (· < ·) := List.Pairwise.filter _ List.pairwise_lt_range
    exact this.imp fun h => by omega
  · unfold Lib.compact
    rw [h2, List.mem_map]
    constructor
    · rintro ⟨j, hj, rfl⟩
      rw [getElem!_pos zs.toArray j (by simpa using hj)]
      obtain ⟨k, k1, k2⟩ := (hm _).1 (List.getElem_mem (l := zs) hj)
      exact ⟨k, mem_nxt.2 ⟨(hg _ k1).2, k1⟩, by simpa using k2⟩
    · rintro ⟨k, hk, rfl⟩
      obtain ⟨j, hj, e⟩ := List.mem_iff_getElem.1 ((hm k).2 ⟨k, (mem_nxt.1 hk).2, rfl⟩)
      exact ⟨j, hj, by rw [getElem!_pos zs.toArray j (by simpa using hj)]; simpa using e⟩
variable {C : CC} (hC : Closed prog C)
include hC
theorem is_c (n i : Int) : C 516 [.int .i64 n, .int .i64 i] (.bool (decide (0 ≤ i) && decide (i < n))) [] := by
  refine start hC (nf := N516_digraph_is) rfl rfl ?_
  simp [N516_digraph_is]
  refine brB_of (fun h => ?_) (fun h => ?_) <;> simp at h <;> simp [h] <;> omega
theorem idxEd_c {b : Bool} {xs : List (Int × Int)} {g : Nat} {cs : List D} (p : (Int × Int) → Bool) (hs : xs.length < 2 ^ 62) (hp : ∀ x ∈ xs, C g (.agg (knD x) :: cs) (.bool (p x)) []) : C 522 [slx b (xs.map fun x => knD x), .fn g cs] (.int .i64 (idxD p xs)) [] := by
  refine start hC (nf := N522_slices_IndexFunc___2int__2int) rfl rfl ?_
  simp [N522_slices_IndexFunc___2int__2int]
  refine loop_of Nat (fun i => [(0, slx b (xs.map fun x => knD x)), (1, .fn g cs), (7, .int .i64 xs.length), (8, .int .i64 i)]) (fun i => i ≤ xs.length ∧ ∀ (j : Nat) (h : j < xs.length), j < i → p xs[j] = false) (fun i => xs.length - i) 0 (by simp) (by simp) ?_
  rintro i ⟨hi, hj⟩
  simp
  refine brB_of (fun h => ?_) (fun h => ?_) <;> simp [h] <;> simp at h
  · have hw : IntKind.wrap .i64 ((i : Int) + 1) = ((i + 1 : Nat) : Int) := wrap_i64 (by omega) (by omega)
    have hc := hp _ (List.getElem_mem h)
    simp [h, knD] at hc ⊢
    refine callW_of hc (.inl rfl) ?_
    simp
    refine brB_of (fun h1 => ?_) (fun h1 => ?_) <;> simp [h1, hw]
    · rw [idxD_step hj h h1]
    · refine ⟨i + 1, ⟨by omega, fun j hl hjj => ?_⟩, by omega, rfl⟩
      rcases Nat.lt_succ_iff_lt_or_eq.1 hjj with h2 | rfl
      · exact hj j hl h2
      · exact h1
  · rw [idxD_none (fun j hl => hj j hl (by omega))]
theorem hasEd_c {b : Bool} {xs : List (Int × Int)} {g : Nat} {cs : List D} (p : (Int × Int) → Bool) (hs : xs.length < 2 ^ 62) (hp : ∀ x ∈ xs, C g (.agg (knD x) :: cs) (.bool (p x)) []) : C 514 [slx b (xs.map fun x => knD x), .fn g cs] (.bool (xs.any p)) [] := by
  refine start hC (nf := N514_slices_ContainsFunc___2int__2int) rfl rfl ?_
  simp [N514_slices_ContainsFunc___2int__2int]
  refine callW_of (idxEd_c hC p hs hp) (.inl rfl) ?_
  simp [idxD_any]
def edBad (n : Int) (e : Int × Int) : Bool := !((decide (0 ≤ e.1) && decide (e.1 < n)) && (decide (0 ≤ e.2) && decide (e.2 < n)))
theorem edBad_c (n : Int) (e : Int × Int) : C 515 [.agg (knD e), .ptr [.int .i64 n]] (.bool (edBad n e)) [] := by
  refine start hC (nf := N515_digraph_Valid_1) rfl rfl ?_
  simp [N515_digraph_Valid_1, knD]
  refine callW_of (is_c hC n e.1) (.inl rfl) ?_
  unfold edBad
  cases h : (decide (0 ≤ e.1) && decide (e.1 < n))
  · simp
  · simp
    refine callW_of (is_c hC n e.2) (.inl rfl) ?_
    simp
def gOk (n : Int) (es : List (Int × Int)) : Bool := decide (0 ≤ n) && decide (n ≤ 300) && decide (es.length ≤ 1000) && !es.any (edBad n)
theorem gValid_c (b : Bool) (n : Int) (es : List (Int × Int)) (hl : es.length < 2 ^ 62) : C 503 [.int .i64 n, slx b (es.map knD)] (.bool (gOk n es)) [] := by
  have k1 := hasEd_c hC (b := b) (xs := es) (g := 515) (cs := [.ptr [.int .i64 n]]) (edBad n) hl (fun x _ => edBad_c hC n x)
  refine start hC (nf := N503_digraph_Valid) rfl rfl ?_
  simp [N503_digraph_Valid]
  by_cases h1 : n < 0
  · simp [h1, gOk, show ¬ 0 ≤ n by omega]
  by_cases h2 : 300 < n
  · simp [h1, h2, gOk, show ¬ n ≤ 300 by omega]
  by_cases h3 : (1000 : Int) < es.length
  · simp [h1, h2, h3, gOk, show ¬ es.length ≤ 1000 by omega]
  simp [h1, h2, h3]
  refine callW_of k1 (.inl rfl) ?_
  simp [gOk, show 0 ≤ n by omega, show n ≤ 300 by omega, show es.length ≤ 1000 by omega]
theorem gOk_of {n : Nat} {es : List Edg} (hn : n ≤ 300) (he : es.length ≤ 1000) (hg : inG n es) : gOk n (es.map edI) = true := by
  unfold gOk
  simp only [Bool.and_eq_true, decide_eq_true_eq, List.length_map, Bool.not_eq_true', List.any_eq_false, List.mem_map]
  refine ⟨⟨⟨by omega, by omega⟩, he⟩, ?_⟩
  rintro x ⟨e, h1, rfl⟩
  obtain ⟨h2, h3⟩ := hg e h1
  simp only [edBad, edI, Bool.not_eq_true', Bool.not_eq_false', Bool.and_eq_true, decide_eq_true_eq]
  simp
  omega
end Go.Gv

set_option linter.unusedSimpArgs false
namespace Go.Gv
theorem rep_map {α : Type} (n : Nat) (x : α) : List.replicate n x = (List.range n).map fun _ => x := by simp [List.map_const']
theorem intL_cast (l : List Nat) : intL l = (l.map fun k : Nat => (k : Int)).map fun n => [.int .i64 n] := by simp [intL]
theorem ints_C1 {l : List Int} : ∀ e ∈ (l.map fun n => [D.int .i64 n]), e.length = 1 ∧ ∀ c ∈ e, isC1 c = true := by
  intro e he
  simp only [List.mem_map] at he
  obtain ⟨k, _, rfl⟩ := he
  simp [isC1]
theorem ints_F1 {l : List Int} : ∀ e ∈ (l.map fun n => [D.int .i64 n]), e.length = 1 ∧ ∀ c ∈ e, isF1 c = true := by
  intro e he
  simp only [List.mem_map] at he
  obtain ⟨k, _, rfl⟩ := he
  simp [isF1]
def ndD (l : List Nat) : D := .sl (intL l)
def nxtD (n : Nat) (es : List Edg) : D := .sl ((List.range n).map fun v => [ndD (nxt n es v)])
/-- The rows while they are made. -/
def rowA (n : Nat) (es : List Edg) (j : Nat) : List (List D) := (List.range n).map fun v => [.own 1 (intL (tgs (es.take j) v))]
def rowC (n : Nat) (es : List Edg) (j : Nat) : List (List D) := (List.range n).map fun v => [.own 1 (intL (if v < j then nxt n es v else tgs es v))]
theorem intL_len (l : List Nat) : (intL l).length = l.length := by simp [intL]
theorem intL_take (l : List Nat) : (intL l).take l.length = intL l := by rw [← intL_len l]; exact List.take_length
theorem intL_app (l : List Nat) (k : Nat) : intL l ++ [[.int .i64 (k : Int)]] = intL (l ++ [k]) := by simp [intL]
theorem intL_C1 {l : List Nat} : ∀ e ∈ intL l, e.length = 1 ∧ ∀ c ∈ e, isC1 c = true := by
  intro e he
  simp only [intL, List.mem_map] at he
  obtain ⟨k, _, rfl⟩ := he
  simp [isC1]
theorem intL_F1 {l : List Nat} : ∀ e ∈ intL l, e.length = 1 ∧ ∀ c ∈ e, isF1 c = true := by
  intro e he
  simp only [intL, List.mem_map] at he
  obtain ⟨k, _, rfl⟩ := he
  simp [isF1]
variable {C : CC} (hC : Closed prog C)
include hC
theorem next_c (hS : SlC C) {b : Bool} {n : Nat} {es : List Edg} (hn : n ≤ 300) (he : es.length ≤ 1000) (hg : inG n es) : C 517 [.int .i64 n, slx b (es.map edK)] (nxtD n es) [] := by
  refine start hC (nf := N517_digraph_next) rfl rfl ?_
  simp [N517_digraph_next]
  refine ⟨by omega, ?_⟩
  refine loop_of Nat (fun j => [(5, .ref (.r 10080) 0 n), (10080, .blk 1 (rowA n es j)), (11, slx b (es.map edK)), (12, .int .i64 es.length), (13, .int .i64 j)]) (fun j => j ≤ es.length) (fun j => es.length - j) 0 (by simp) (by simp [rowA, tgs, intL, rep_map]) ?_
  rintro j hj
  simp
  refine brB_of (fun h => ?_) (fun h => ?_) <;> simp [h] <;> simp at h
  · have hw : IntKind.wrap .i64 ((j : Int) + 1) = ((j + 1 : Nat) : Int) := wrap_i64 (by omega) (by omega)
    have hin := hg _ (List.getElem_mem h)
    have hr : (rowA n es j)[es[j].1]? = some [.own 1 (intL (tgs (es.take j) es[j].1))] := by simp [rowA, hin.1]
    have hlt := tgs_len (es.take j) es[j].1
    have hb : (tgs (es.take j) es[j].1).length ≤ 1000 := by simp at hlt; omega
    have hrl : (rowA n es j).length = n := by simp [rowA]
    have hr2 : es[j].1 < (rowA n es j).length := by omega
    simp [h, edK, knD, rowW_some hr, hin, hr, intL_len]
    refine ⟨by omega, ?_⟩
    simp only [intL_take, intL_app]
    have e1 : ∀ e, e ∈ intL (tgs (es.take j) es[j].1) ∨ e = [.int .i64 (es[j].2 : Int)] → ∀ c ∈ e, isC1 c = true := by
      rintro e (h1 | rfl)
      · exact (intL_C1 e h1).2
      · simp [isC1]
    have e2 : (((rowA n es j).set es[j].1 [.any]).set es[j].1 [.own 1 (intL (tgs (es.take j) es[j].1 ++ [es[j].2]))]) = rowA n es (j + 1) := by
      rw [List.set_set]
      unfold rowA
      rw [set_rm]
      apply List.map_congr_left
      intro v _
      rw [tgs_take h]
      by_cases e : v = es[j].1
      · subst e; simp
      · rw [if_neg e, if_neg (Ne.symm e), List.append_nil]
    refine ⟨e1, ?_⟩
    simp [hr2, e2]
    refine ⟨indW_of (by decide +kernel), ?_⟩
    simp [hw]
    refine ⟨j + 1, by omega, by omega, ?_, by simp⟩
    simp only [intL_take, intL_app]
    rw [← e2, List.set_set]
  · have e0 : rowA n es j = rowC n es 0 := by
      unfold rowA rowC
      rw [List.take_of_length_le h]
      simp
    rw [e0]
    refine loop_of Nat (fun j => [(5, .ref (.r 10080) 0 n), (10080, .blk 1 (rowC n es j)), (32, .int .i64 n), (33, .int .i64 j)]) (fun j => j ≤ n) (fun j => n - j) 0 (by simp) (by simp) ?_
    clear e0 h hj j
    rintro j hj
    simp
    refine brB_of (fun h => ?_) (fun h => ?_) <;> simp [h] <;> simp at h
    · have hw : IntKind.wrap .i64 ((j : Int) + 1) = ((j + 1 : Nat) : Int) := wrap_i64 (by omega) (by omega)
      have hr : (rowC n es j)[j]? = some [.own 1 (intL (tgs es j))] := by simp [rowC, h]
      have hl := tgs_len es j
      simp [h, rowW_some hr, hr, intL_len]
      have ks := hS.sort ((tgs es j).map fun k : Nat => (k : Int)) (by simp; omega)
      have kc := hS.compact (((tgs es j).map fun k : Nat => (k : Int)).mergeSort fun x y => decide (x ≤ y)) (by simp [List.length_mergeSort]; omega)
      rw [compact_sort hg, ← intL_cast] at kc
      rw [← intL_cast] at ks
      have hsl : (((tgs es j).map fun k : Nat => (k : Int)).mergeSort fun x y => decide (x ≤ y)).length = (tgs es j).length := by simp [List.length_mergeSort]
      obtain ⟨zs, hz⟩ : ∃ zs, zs = ((tgs es j).map fun k : Nat => (k : Int)).mergeSort fun x y => decide (x ≤ y) := ⟨_, rfl⟩
      rw [← hz] at ks kc hsl
      have hjl : j < (rowC n es j).length := by simp [rowC, h]
      have e1 : (((rowC n es j).set j [.own 1 (zs.map fun n => [.int .i64 n])]).set j [.any]).set j [.own 1 (intL (nxt n es j))] = rowC n es (j + 1) := by
        rw [List.set_set, List.set_set]
        unfold rowC
        rw [set_rm]
        apply List.map_congr_left
        intro v _
        by_cases e : v = j
        · subst e; simp
        · rw [if_neg e]
          by_cases e2 : v < j
          · rw [if_pos e2, if_pos (by omega)]
          · rw [if_neg e2, if_neg (by omega)]
      refine cellW_of ks (by rw [List.length_map, hsl, intL_len]) ints_C1 ?_
      have hset : ∀ x, ((rowC n es j).set j x)[j]? = some x := fun x => by simp [hjl]
      simp [hr, h, rowW_some (hset _), hset]
      refine ⟨fun e he => (ints_F1 e (List.mem_of_mem_take he)).2, ?_⟩
      have e3 : (zs.map fun n => [D.int .i64 n]).take zs.length = zs.map fun n => [D.int .i64 n] := List.take_of_length_le (by simp)
      rw [e3]
      refine eatW_of kc intL_F1 ?_
      simp [hr, h, rowW_some (hset _), hset]
      rw [List.set_set, List.set_set] at e1
      exact ⟨fun e he => (intL_C1 e he).2, j + 1, by omega, by omega, e1, hw⟩
    · have e : j = n := by omega
      subst e
      simp [rowC]
      unfold nxtD
      rw [List.take_of_length_le (by simp)]
      congr 1
      apply List.map_congr_left
      intro v hv
      have : v < j := by simpa using hv
      simp [this, cellV, ndD]
end Go.Gv

set_option linter.unusedSimpArgs false
namespace Go.Gv
open Go.Lib

variable {C : CC} (hC : Closed prog C)
include hC
end Go.Gv

set_option linter.unusedSimpArgs false
namespace Go.Gv

variable {C : CC} (hC : Closed prog C)
include hC
end Go.Gv

namespace Go.Gv

/-- A digit's quotient so far: u is what is divided, d the next digit, y = a K + b. -/
structure DvI (u d a b q r : Nat) : Prop where
  sum : q * a + r = u
  ge : (u * 4294967296 + d) / (a * 4294967296 + b) ≤ q
  rlt : r < 4294967296
  qle : q ≤ 4294967297

section
variable {u d a b q r : Nat}
theorem Dv.mul (h : q * a + r = u) : q * (a * 4294967296 + b) + r * 4294967296 = u * 4294967296 + q * b := by
  subst h
  rw [Nat.mul_add, ← Nat.mul_assoc, Nat.add_mul]
  omega
theorem Dv.lt (_ : 0 < a) (hu : u < a * 4294967296 + b) (hd : d < 4294967296) : (u * 4294967296 + d) / (a * 4294967296 + b) < 4294967296 := by
  rw [Nat.div_lt_iff_lt_mul (by omega)]
  have : (u + 1) * 4294967296 ≤ (a * 4294967296 + b) * 4294967296 := Nat.mul_le_mul_right _ hu
  omega
theorem DvI.first (ha : 2147483648 ≤ a) (ha2 : a < 4294967296) (hb : b < 4294967296) (hu : u < a * 4294967296 + b) (hd : d < 4294967296) : DvI u d a b (u / a) (u % a) where
  sum := by rw [Nat.mul_comm]; exact Nat.div_add_mod u a
  rlt := by have := Nat.mod_lt u (show 0 < a by omega); omega
  ge := by
    rw [Nat.le_div_iff_mul_le (by omega)]
    have h := Nat.div_mul_le_self (u * 4294967296 + d) (a * 4294967296 + b)
    generalize (u * 4294967296 + d) / (a * 4294967296 + b) = Q at *
    rw [Nat.mul_add, ← Nat.mul_assoc] at h
    generalize Q * b = z at *
    generalize Q * a = x at *
    omega
  qle := by
    have : u / a < 4294967298 := by
      rw [Nat.div_lt_iff_lt_mul (by omega)]
      omega
    omega
theorem DvI.more (h : DvI u d a b q r) (ha : 0 < a) (hu : u < a * 4294967296 + b) (hd : d < 4294967296) (hc : 4294967296 ≤ q ∨ 4294967296 * r + d < q * b) : (u * 4294967296 + d) / (a * 4294967296 + b) + 1 ≤ q := by
  rcases hc with hc | hc
  · have := Dv.lt (d := d) ha hu hd
    omega
  · have h1 := Dv.mul (b := b) h.sum
    have : (u * 4294967296 + d) / (a * 4294967296 + b) < q := by
      rw [Nat.div_lt_iff_lt_mul (by omega)]
      generalize q * (a * 4294967296 + b) = z at *
      generalize q * b = x at *
      omega
    omega
theorem DvI.done (h : DvI u d a b q r) (ha : 0 < a) (hc : q * b ≤ 4294967296 * r + d) : q = (u * 4294967296 + d) / (a * 4294967296 + b) := by
  have h1 := Dv.mul (b := b) h.sum
  have h2 := h.ge
  have : q ≤ (u * 4294967296 + d) / (a * 4294967296 + b) := by
    rw [Nat.le_div_iff_mul_le (by omega)]
    generalize q * (a * 4294967296 + b) = z at *
    generalize q * b = x at *
    omega
  omega
/-- One less; and what is left is more. -/
theorem DvI.next (h : DvI u d a b q r) (ha : 0 < a) (hu : u < a * 4294967296 + b) (hd : d < 4294967296) (hc : 4294967296 ≤ q ∨ 4294967296 * r + d < q * b) :
    1 ≤ q ∧ (q - 1) * a + (r + a) = u ∧ (u * 4294967296 + d) / (a * 4294967296 + b) ≤ q - 1 ∧ q - 1 ≤ 4294967296 := by
  have h1 := h.more ha hu hd hc
  have h2 := h.qle
  have h3 := h.sum
  generalize (u * 4294967296 + d) / (a * 4294967296 + b) = Q at *
  obtain ⟨q', rfl⟩ : ∃ q', q = q' + 1 := ⟨q - 1, by omega⟩
  refine ⟨by omega, ?_, by omega, by omega⟩
  rw [Nat.add_mul] at h3
  simp only [Nat.add_sub_cancel]
  omega
end

end Go.Gv

set_option linter.unusedSimpArgs false
namespace Go.Gv

variable {C : CC} (hC : Closed prog C)
include hC
end Go.Gv

set_option linter.unusedSimpArgs false
namespace Go.Gv

def wideD (n : Nat) : D := .agg [.int .u64 ((n / 18446744073709551616 : Nat) : Int), .int .u64 ((n % 18446744073709551616 : Nat) : Int)]
def rootF (x : Nat) : Nat → Nat → Nat
  | 0, r => r
  | i + 1, r => rootF x i (if (r + 2 ^ i) * (r + 2 ^ i) ≤ x then r + 2 ^ i else r)
def rootN (x : Nat) : Nat := rootF x 63 0

variable {C : CC} (hC : Closed prog C)
include hC
end Go.Gv

set_option linter.unusedSimpArgs false
namespace Go.Gv


def okAt (t : List (Int × Int)) (i : Nat) : Bool := fits t[i]!.1 && fits t[i]!.2 && (i == 0 || (t[i - 1]!.1 < t[i]!.1 && t[i - 1]!.2 ≤ t[i]!.2))
def tableValid (t : List (Int × Int)) : Bool := 1 ≤ t.length && t.length ≤ 100 && (List.range t.length).all (okAt t)

variable {C : CC} (hC : Closed prog C)
include hC
theorem tableValid_c (b : Bool) (t : List (Int × Int)) : C 72 [slx b (t.map knD)] (.bool (tableValid t)) [] := by
  refine start hC (nf := N72_table_Valid) rfl rfl ?_
  simp [N72_table_Valid]
  refine brB_of (fun h => ?_) (fun h => ?_) <;> simp at h
  · simp [tableValid, show t.length = 0 by omega]
  simp [h]
  refine brB_of (fun h2 => ?_) (fun h2 => ?_) <;> simp at h2
  · simp [tableValid, h, h2]
    omega
  simp
  refine loop_of Nat (fun i => [(0, slx b (t.map knD)), (13, slx b (t.map knD)), (14, .int .i64 t.length), (15, .int .i64 i)]) (fun i => i ≤ t.length ∧ ∀ j < i, okAt t j = true) (fun i => t.length - i) 0 (by simp) (by simp) ?_
  rintro i ⟨hi, hj⟩
  simp
  refine brB_of (fun h3 => ?_) (fun h3 => ?_) <;> simp at h3
  · have bad : okAt t i = false → tableValid t = false := fun hb => by
      simp only [tableValid, Bool.and_eq_false_iff, List.all_eq_false]
      exact .inr ⟨i, by simpa using h3, by simp [hb]⟩
    have e1 : t[i]! = t[i] := getElem!_pos t i h3
    have e2 : t[i - 1]! = t[i - 1] := getElem!_pos t (i - 1) (by omega)
    simp only [okAt, e1, e2] at bad
    have hw1 : IntKind.wrap .i64 ((i : Int) + 1) = ((i + 1 : Nat) : Int) := wrap_i64 (by omega) (by omega)
    have next : okAt t i = true → ∃ s' : Nat, (s' ≤ t.length ∧ ∀ j < s', okAt t j = true) ∧ t.length - s' < t.length - i ∧ s' = i + 1 := fun ho =>
      ⟨i + 1, ⟨by omega, fun j hjj => by
        rcases Nat.lt_succ_iff_lt_or_eq.1 hjj with h | rfl
        · exact hj j h
        · exact ho⟩, by omega, rfl⟩
    simp only [okAt, e1, e2] at next
    simp [h3, knD]
    refine callW_of (fits_c hC _) (.inl rfl) ?_
    cases f1 : fits t[i].1
    · simp
      exact ⟨indW_of (by decide +kernel), bad (by simp [f1])⟩
    simp
    refine callW_of (fits_c hC _) (.inl rfl) ?_
    cases f2 : fits t[i].2
    · simp
      exact ⟨indW_of (by decide +kernel), bad (by simp [f2])⟩
    simp
    refine brB_of (fun h4 => ?_) (fun h4 => ?_) <;> simp at h4
    · have hw : IntKind.wrap .i64 ((i : Int) - 1) = ((i - 1 : Nat) : Int) := wrap_i64 (by omega) (by omega)
      have h5 : i - 1 < t.length := by omega
      simp [h4, hw, h5, knD]
      refine brB_of (fun h6 => ?_) (fun h6 => ?_) <;> simp [h6, hw, h5, knD] <;> simp at h6
      · refine ⟨indW_of (by decide +kernel), bad ?_⟩
        simp [f1, f2]
        omega
      · refine ⟨indW_of (by decide +kernel), brB_of (fun h7 => ?_) (fun h7 => ?_)⟩ <;> simp [h7, hw1] <;> simp at h7
        · refine bad ?_
          simp [f1, f2]
          omega
        · obtain ⟨s', g1, g2, rfl⟩ := next (by simp [f1, f2, h6, h7])
          exact ⟨_, g1, g2, rfl⟩
    · have hi0 : i = 0 := by omega
      subst hi0
      simp at hw1
      simp [hw1]
      refine ⟨indW_of (by decide +kernel), ?_⟩
      obtain ⟨s', g1, g2, rfl⟩ := next (by simp [f1, f2])
      exact ⟨_, g1, g2, rfl⟩
  · have : i = t.length := by omega
    subst this
    simp [tableValid, h, h2]
    exact ⟨⟨by omega, by omega⟩, hj⟩
end Go.Gv

set_option linter.unusedSimpArgs false
namespace Go.Gv

theorem valid_len {t : List (Int × Int)} (h : tableValid t = true) : 1 ≤ t.length ∧ t.length ≤ 100 := by
  simp only [tableValid, Bool.and_eq_true, decide_eq_true_eq] at h
  exact h.1
variable {C : CC} (hC : Closed prog C)
include hC
end Go.Gv

set_option linter.unusedSimpArgs false
namespace Go.Gv
def posL (l : List Nat) (x : Nat) : Nat := l.findIdx fun k => decide (x ≤ k)
/-- What is known of the order as far as it goes. -/
structure OrdI (n : Nat) (es : List Edg) (out : List Nat) : Prop where
  lt : ∀ v ∈ out, v < n
  nd : out.Nodup
  pre : ∀ v ∈ out, ∀ u, (u, v) ∈ es → u ∈ out
theorem OrdI.nil (n : Nat) (es : List Edg) : OrdI n es [] := ⟨by simp, by simp, by simp⟩
theorem OrdI.len {n : Nat} {es : List Edg} {out : List Nat} (h : OrdI n es out) : out.length ≤ n := by
  have := (List.nodup_range (n := n)).sublist (List.Sublist.refl _)
  have hsub : out ⊆ List.range n := fun v hv => by simpa using h.lt v hv
  have := List.Nodup.length_le_of_subset h.nd hsub
  simpa using this
theorem OrdI.step {n : Nat} {es : List Edg} {out : List Nat} (h : OrdI n es out) {i : Nat} (hi : i ∈ rdyL n es out) : OrdI n es (out ++ [i]) := by
  obtain ⟨h1, h2, h3⟩ := mem_rdyL.1 hi
  refine ⟨fun v hv => ?_, ?_, fun v hv u hu => ?_⟩
  · rcases List.mem_append.1 hv with hv | hv
    · exact h.lt v hv
    · simp at hv; omega
  · rw [List.nodup_append]
    refine ⟨h.nd, by simp, fun a ha b hb => ?_⟩
    simp at hb
    subst hb
    rintro rfl
    exact h2 ha
  · rcases List.mem_append.1 hv with hv | hv
    · exact List.mem_append.2 (.inl (h.pre v hv u hu))
    · simp at hv
      subst hv
      exact List.mem_append.2 (.inl (h3 u hu))
variable {C : CC} (hC : Closed prog C)
include hC
theorem cNaN_c (x : Int) : C 299 [.int .i64 x] (.bool false) [] := by
  refine start hC (nf := N299_cmp_isNaN_int) rfl rfl ?_
  simp [N299_cmp_isNaN_int]
end Go.Gv

set_option linter.unusedSimpArgs false
namespace Go.Gv
open Go.Lib
def fndR (L : List Fnd) : List (List D) := L.map fndC
theorem fndR_len (L : List Fnd) : (fndR L).length = L.length := by simp [fndR]
theorem fndR_get {L : List Fnd} {j : Nat} (h : j < L.length) : (fndR L)[j]? = some [.int .i64 L[j].1, .str L[j].2] := by simp [fndR, h, fndC]
theorem fndR_set {L : List Fnd} {j : Nat} (x : Fnd) : (fndR L).set j [.int .i64 x.1, .str x.2] = fndR (L.set j x) := by simp [fndR, fndC]
theorem fndR_take (L : List Fnd) (k : Nat) : (fndR L).take k = fndR (L.take k) := by simp [fndR]
theorem fndC_isC (L : List Fnd) : ∀ e ∈ fndR L, ∀ c ∈ e, isC1 c = true := by
  intro e he c hc
  obtain ⟨x, _, rfl⟩ := List.mem_map.1 he
  simp [fndC] at hc
  rcases hc with rfl | rfl <;> rfl
theorem fndC_isF (L : List Fnd) : ∀ e ∈ fndR L, ∀ c ∈ e, isF1 c = true := by
  intro e he c hc
  obtain ⟨x, _, rfl⟩ := List.mem_map.1 he
  simp [fndC] at hc
  rcases hc with rfl | rfl <;> rfl
theorem fndC_len (L : List Fnd) : ∀ e ∈ fndR L, e.length = 2 := by
  intro e he
  obtain ⟨x, _, rfl⟩ := List.mem_map.1 he
  rfl
structure ChkC (C : CC) : Prop where
  scmp : ∀ a b : List UInt8, C 632 [.str a, .str b] (.int .i64 (compareBytes a b)) []
  sort : ∀ L : List Fnd, L.length < 2 ^ 62 → (∀ x y : Fnd, C 631 [.agg (fndC x), .agg (fndC y)] (.int .i64 (fcmp x y)) []) → C 630 [.own 2 (fndR L), .fn 631 []] .any [.own 2 (fndR (srtL fcmp L)), .nilp]
/-! ### Plain: one of each, in place -/
section
variable {α : Type} [DecidableEq α]
theorem ddL_snoc : ∀ (l : List α) (x : α), ddL (l ++ [x]) = if l.getLast? = some x then ddL l else ddL l ++ [x]
  | [], x => by simp [ddL]
  | [y], x => by
    simp only [List.cons_append, List.nil_append, ddL_cons, List.getLast?_singleton, Option.some.injEq]
    by_cases e : y = x
    · rw [if_pos e, if_pos e]; subst e; rfl
    · rw [if_neg e, if_neg e]; rfl
  | y :: z :: r, x => by
    have ih := ddL_snoc (z :: r) x
    have e0 : y :: z :: r ++ [x] = y :: z :: (r ++ [x]) := rfl
    have e1 : z :: r ++ [x] = z :: (r ++ [x]) := rfl
    have e2 : (y :: z :: r).getLast? = (z :: r).getLast? := rfl
    rw [e0, ddL_cons, ← e1, ih, e2, ddL_cons]
    by_cases e : y = z
    · rw [if_pos e, if_pos e]
    · rw [if_neg e, if_neg e]
      split
      · rfl
      · rfl
theorem ddL_take (l : List α) {m : Nat} (hm : m < l.length) (h0 : 0 < m) : ddL (l.take (m + 1)) = if l[m - 1] = l[m] then ddL (l.take m) else ddL (l.take m) ++ [l[m]] := by
  have e : l.take (m + 1) = l.take m ++ [l[m]] := by rw [List.take_succ_eq_append_getElem hm]
  have e2 : (l.take m).getLast? = some l[m - 1] := by
    rw [List.getLast?_eq_getElem?]
    simp only [List.length_take, Nat.min_eq_left (Nat.le_of_lt hm)]
    rw [List.getElem?_take_of_lt (by omega), List.getElem?_eq_getElem (by omega)]
  rw [e, ddL_snoc, e2]
  simp only [Option.some.injEq]
theorem ddL_len (l : List α) : (ddL l).length ≤ l.length := by
  induction l with
  | nil => simp [ddL]
  | cons x l ih =>
    cases l with
    | nil => simp [ddL]
    | cons y r =>
      rw [ddL_cons]
      split
      · simp at ih ⊢; omega
      · simp at ih ⊢; omega
end
variable {C : CC} (hC : Closed prog C)
include hC
theorem add_c (L : List Fnd) (k : Int) (nm : List UInt8) (hl : L.length < 2 ^ 40) : C 628 [.blk 1 [[.own 2 (fndR L)]], .int .i64 k, .str nm] (.tup []) [.blk 1 [[.own 2 (fndR (L ++ [(k, nm)]))]]] := by
  refine startL hC (nf := N628_checker_notes_add) rfl rfl ?_
  simp [N628_checker_notes_add, fndR_len]
  have e : List.take L.length (fndR L) = fndR L := List.take_of_length_le (by rw [fndR_len]; exact Nat.le_refl _)
  refine ⟨by omega, fun e' he c hc => ?_, by rw [e]; simp [fndR, fndC]⟩
  rw [e] at he
  rcases he with he | rfl
  · exact fndC_isC L e' he c hc
  · simp at hc; rcases hc with rfl | rfl <;> rfl
theorem ccmp_c (a b : Int) : C 267 [.int .i64 a, .int .i64 b] (.int .i64 (intC a b)) [] := by
  have k1 := cNaN_c hC a
  have k2 := cNaN_c hC b
  refine start hC (nf := N267_cmp_Compare_int) rfl rfl ?_
  simp [N267_cmp_Compare_int]
  refine callW_of k1 (.inl rfl) ?_
  simp
  refine callW_of k2 (.inl rfl) ?_
  simp
  unfold intC
  refine brB_of (fun h => ?_) (fun h => ?_) <;> simp at h
  · simp [h]
  · have h' : ¬ a < b := by omega
    simp [h']
    refine brB_of (fun h2 => ?_) (fun h2 => ?_) <;> simp at h2
    · simp [h2]; omega
    · have h2' : ¬ b < a := by omega
      simp [h2']; omega
theorem cor_c (a b : Int) : C 266 [.sl [[.int .i64 a], [.int .i64 b]]] (.int .i64 (if a = 0 then b else a)) [] := by
  refine start hC (nf := N266_cmp_Or_int) rfl rfl ?_
  simp [N266_cmp_Or_int]
  refine loop_of Nat (fun j => [(3, .int .i64 0), (6, .sl [[.int .i64 a], [.int .i64 b]]), (7, .int .i64 2), (8, .int .i64 j)]) (fun j => j ≤ 2 ∧ (j = 1 → a = 0) ∧ (j = 2 → a = 0 ∧ b = 0)) (fun j => 2 - j) 0 (by simp) (by simp) ?_
  rintro j ⟨hj, h1, h2⟩
  simp
  rcases (show j = 0 ∨ j = 1 ∨ j = 2 by omega) with rfl | rfl | rfl
  · simp [idxW_some (show [[D.int .i64 a], [D.int .i64 b]][0]? = some [D.int .i64 a] from rfl)]
    refine brB_of (fun h => ?_) (fun h => ?_) <;> simp at h
    · simp [h]
    · simp [h]
      have hw : IntKind.wrap .i64 (1 : Int) = 1 := wrap_i64 (by omega) (by omega)
      simp [hw]
      exact ⟨1, by simp, by simp⟩
  · have ha := h1 rfl
    simp [idxW_some (show [[D.int .i64 a], [D.int .i64 b]][1]? = some [D.int .i64 b] from rfl)]
    refine brB_of (fun h => ?_) (fun h => ?_) <;> simp at h
    · simp [h, ha]
    · simp [h, ha]
      have hw : IntKind.wrap .i64 (2 : Int) = 2 := wrap_i64 (by omega) (by omega)
      simp [hw]
      exact ⟨2, by simp, by simp⟩
  · obtain ⟨ha, hb⟩ := h2 rfl
    simp [ha, hb]
theorem fcmp_c (hK : ChkC C) (x y : Fnd) : C 631 [.agg (fndC x), .agg (fndC y)] (.int .i64 (fcmp x y)) [] := by
  have k1 := ccmp_c hC x.1 y.1
  have k2 := hK.scmp x.2 y.2
  have k3 := cor_c hC (intC x.1 y.1) (compareBytes x.2 y.2)
  refine start hC (nf := N631_checker_notes_sorted_1) rfl rfl ?_
  simp [N631_checker_notes_sorted_1, fndC]
  refine callW_of k1 (.inl rfl) ?_
  simp
  refine callW_of k2 (.inl rfl) ?_
  simp
  refine callW_of k3 (.inl rfl) ?_
  simp
  refine ⟨indW_of (by decide +kernel), ?_⟩
  unfold fcmp
  split <;> rfl
set_option maxHeartbeats 1000000 in
theorem compF_c (L : List Fnd) (hl : L.length < 2 ^ 40) : C 633 [.own 2 (fndR L)] .any [.own 2 (fndR (ddL L)), .nils, .nils] := by
  refine startI hC (nf := N633_slices_Compact_checker_notes_api_Finding) rfl rfl (by simp) (by omega) ?_
  simp [N633_slices_Compact_checker_notes_api_Finding, fndR_len]
  refine brB_of (fun h => ?_) (fun h => ?_) <;> simp at h
  · simp [h, fndR_len]
    have e : ddL L = L := by
      match L, h with
      | [], _ => rfl
      | [x], _ => rfl
      | x :: y :: r, h => simp at h; omega
    rw [e]
    exact ⟨fndC_isF L, List.take_of_length_le (by rw [fndR_len]; exact Nat.le_refl _)⟩
  · simp [h]
    refine loop_of Nat (fun k => [(0, .ref (.r 10015) 0 L.length), (3, .int .i64 k), (10015, .blk 2 (fndR L))]) (fun k => 1 ≤ k ∧ k ≤ L.length ∧ ddL (L.take k) = L.take k) (fun k => L.length - k) 1 ⟨by omega, by omega, ?_⟩ (by simp) ?_
    · match L, h with
      | x :: r, h => simp [ddL]
    rintro k ⟨h1, h2, h3⟩
    simp
    refine brB_of (fun h4 => ?_) (fun h4 => ?_) <;> simp at h4
    · have hw : IntKind.wrap .i64 ((k : Int) - 1) = ((k - 1 : Nat) : Int) := by
        rw [show (k : Int) - 1 = ((k - 1 : Nat) : Int) by omega]
        exact wrap_i64 (by omega) (by omega)
      have hw2 : IntKind.wrap .i64 ((k : Int) + 1) = ((k + 1 : Nat) : Int) := wrap_i64 (by omega) (by omega)
      simp [h4, hw, rowW_some (fndR_get h4), rowW_some (fndR_get (show k - 1 < L.length by omega))]
      refine ⟨by omega, indW_of (by decide +kernel), ?_⟩
      have ht := ddL_take L h4 (by omega)
      refine brB_of (fun h5 => ?_) (fun h5 => ?_)
      · have h6 : L[k - 1] = L[k] := by
          simp only [Bool.and_eq_true, decide_eq_true_eq] at h5
          exact Prod.ext h5.1.symm h5.2.symm
        rw [if_pos h6, h3] at ht
        have h5' : (decide (L[k].1 = L[k - 1].1) && decide (L[k].2 = L[k - 1].2)) = true := h5
        rw [h5']
        clear h5 h5'
        simp [h4, h2, fndR_len]
        refine loop_of (Nat × Nat × List Fnd) (fun s => [(0, .ref (.r 10015) 0 L.length), (3, .int .i64 s.2.1), (4, .ref (.r 10015) k (L.length - k)), (5, .int .i64 s.1), (10015, .blk 2 (fndR s.2.2))])
          (fun s => 1 ≤ s.1 ∧ s.1 + k ≤ L.length ∧ k ≤ s.2.1 ∧ s.2.1 + 1 ≤ k + s.1 ∧ s.2.2.length = L.length ∧ s.2.2.take s.2.1 = ddL (L.take (k + s.1)) ∧ ∀ j, k + s.1 ≤ j + 1 → s.2.2[j]? = L[j]?)
          (fun s => L.length - s.1) (1, k, L) ⟨by simp, by simp; omega, by simp, by simp, rfl, by simp [ht], by simp⟩ (by simp) ?_
        rintro ⟨j, q, W⟩ ⟨a1, a2, a3, a4, a5, a6, a7⟩
        simp only at a1 a2 a3 a4 a5 a6 a7
        simp
        refine brB_of (fun h7 => ?_) (fun h7 => ?_) <;> simp at h7
        · have hkj : k + j < L.length := by omega
          have w1 : W[k + j]? = L[k + j]? := a7 _ (by omega)
          have w2 : W[k + (j - 1)]? = L[k + (j - 1)]? := a7 _ (by omega)
          have g1 : (fndR W)[k + j]? = some [.int .i64 L[k + j].1, .str L[k + j].2] := by
            unfold fndR
            rw [List.getElem?_map, w1, List.getElem?_eq_getElem hkj]; rfl
          have g2 : (fndR W)[k + (j - 1)]? = some [.int .i64 L[k + (j - 1)].1, .str L[k + (j - 1)].2] := by
            unfold fndR
            rw [List.getElem?_map, w2, List.getElem?_eq_getElem (show k + (j - 1) < L.length by omega)]; rfl
          have hv : IntKind.wrap .i64 ((j : Int) - 1) = ((j - 1 : Nat) : Int) := wrap_i64 (by omega) (by omega)
          have hv2 : IntKind.wrap .i64 ((j : Int) + 1) = ((j + 1 : Nat) : Int) := wrap_i64 (by omega) (by omega)
          have hv3 : IntKind.wrap .i64 ((q : Int) + 1) = ((q + 1 : Nat) : Int) := wrap_i64 (by omega) (by omega)
          simp [h7, hv, rowW_some g1, rowW_some g2]
          refine ⟨by omega, indW_of (by decide +kernel), ?_⟩
          have ht2 := ddL_take L hkj (by omega)
          refine brB_of (fun h8 => ?_) (fun h8 => ?_)
          · have hne : L[k + j - 1] ≠ L[k + j] := fun e => by
              have e2 : L[k + (j - 1)] = L[k + j] := by
                rw [← e]
                congr 1
                omega
              rw [e2] at h8
              simp at h8
            rw [if_neg hne] at ht2
            rw [h8]
            have hq : q < L.length := by omega
            have hqW : q < W.length := by omega
            have e9 : (fndR W)[q]'(by rw [fndR_len]; exact hqW) = [.int .i64 W[q].1, .str W[q].2] := (List.getElem?_eq_some_iff.1 (fndR_get hqW)).2
            simp [h7, hv, hv2, hv3, rowW_some g1, fndR_len, a5, hq, e9]
            refine ⟨j + 1, q + 1, W.set q L[k + j], ⟨by omega, by omega, by omega, by omega, by simp [a5], ?_, fun i hi => ?_⟩, by omega, by omega, by omega, fndR_set _⟩
            · rw [List.take_succ_eq_append_getElem (by simp; exact hqW), List.take_set_of_le (Nat.le_refl _), a6, show k + (j + 1) = k + j + 1 by omega, ht2]
              simp
            · rw [List.getElem?_set, if_neg (by omega)]
              exact a7 i (by omega)
          · have heq : L[k + j - 1] = L[k + j] := by
              have e2 : L[k + j] = L[k + (j - 1)] := by
                simp only [Bool.or_eq_false_iff, Bool.not_eq_false', decide_eq_true_eq] at h8
                exact Prod.ext h8.1 h8.2
              rw [e2]
              congr 1
              omega
            rw [if_pos heq] at ht2
            rw [h8]
            simp [h7, hv2]
            exact ⟨j + 1, q, W, ⟨by omega, by omega, by omega, by omega, a5, by rw [a6, show k + (j + 1) = k + j + 1 by omega, ht2], fun i hi => a7 i (by omega)⟩, by omega, rfl, by omega, rfl⟩
        · have hj : k + j = L.length := by omega
          have a6' : W.take q = ddL L := by rw [a6, hj, List.take_length]
          have hq : q < L.length := by omega
          have hqW : q ≤ W.length := by omega
          simp [h7, fndR_len, a5]
          have hz : (zeroR (fndR W) q (L.length - q) [.int .i64 0, .str []]).length = L.length := by rw [zeroR_len (by rw [fndR_len]; omega), fndR_len, a5]
          refine ⟨by omega, by omega, fndC_isC W, by omega, fndC_isF _, by omega, ?_⟩
          unfold zeroR
          rw [List.append_assoc, List.take_append_of_le_length (by simp [fndR_len]; omega), List.take_take, Nat.min_self, fndR_take, a6']
      · have h6 : L[k - 1] ≠ L[k] := fun e => by
          rw [e] at h5
          simp at h5
        rw [if_neg h6, h3] at ht
        rw [h5]
        simp [h4, hw2]
        exact ⟨k + 1, by refine ⟨by omega, by omega, ?_⟩; rw [ht, List.take_succ_eq_append_getElem h4], by omega, rfl⟩
    · have ek : k = L.length := by omega
      subst ek
      rw [List.take_length] at h3
      simp [h3, fndR_len]
      exact ⟨fndC_isF L, List.take_of_length_le (by rw [fndR_len]; exact Nat.le_refl _)⟩
theorem sortF_c (hK : ChkC C) (L : List Fnd) (hl : L.length < 2 ^ 40) : C 590 [.own 2 (fndR L)] .any [.own 2 (fndR (canL fcmp L)), .nils, .nils] := by
  have k1 := hK.sort L (by omega) (fcmp_c hC hK)
  have k2 := compF_c hC (srtL fcmp L) (by rw [srtL_len]; exact hl)
  refine startI hC (nf := N590_checker_notes_sorted) rfl rfl (by simp) (by omega) ?_
  simp [N590_checker_notes_sorted, fndR_len]
  refine ⟨fndC_isC L, ?_⟩
  refine callUW_of k1 (.inl rfl) (by simp [fndR_len, srtL_len]) (fun e he => ⟨fndC_len _ e he, fndC_isC _ e he⟩) ?_
  simp [fndR_len, srtL_len]
  have e : List.take L.length (fndR (srtL fcmp L)) = fndR (srtL fcmp L) := List.take_of_length_le (by rw [fndR_len, srtL_len]; exact Nat.le_refl _)
  rw [e]
  refine ⟨fndC_isF _, ?_⟩
  refine eatW_of k2 (fun e he => ⟨fndC_len _ e he, fndC_isF _ e he⟩) ?_
  simp [fndR_len]
  exact ⟨fndC_isF _, List.take_of_length_le (by rw [fndR_len]; exact Nat.le_refl _)⟩
end Go.Gv

set_option linter.unusedSimpArgs false
namespace Go.Gv
def wtA (n : Nat) (f : Nat → Nat) : List (List D) := (List.range n).map fun v => [.int .i64 (f v : Int)]
def wt1 (n : Nat) (es : List Edg) (i j v : Nat) : Nat := cntU es i v + (if v ∈ (nxt n es i).take j then 1 else 0)
/-- The nodes that are ready from the start, among the first i. -/
def rd0 (n : Nat) (es : List Edg) (i : Nat) : List Nat := (List.range i).filter fun v => decide (cntW n es [] v = 0)
/-- The waits, and what is ready, while what follows node i is looked at. -/
def wt2 (n : Nat) (es : List Edg) (out : List Nat) (i j v : Nat) : Nat := if v ∈ (nxt n es i).take j then cntW n es (out ++ [i]) v else cntW n es out v
def rdp (n : Nat) (es : List Edg) (out : List Nat) (i j v : Nat) : Bool := (!out.contains v && prOk es out v && !(v == i)) || (((nxt n es i).take j).contains v && prOk es (out ++ [i]) v)
def rd2 (n : Nat) (es : List Edg) (out : List Nat) (i j : Nat) : List Nat := (List.range n).filter (rdp n es out i j)
end Go.Gv

set_option linter.unusedSimpArgs false
namespace Go.Gv
def ndR (n : Nat) (es : List Edg) : List (List D) := (List.range n).map fun v => [ndD (nxt n es v)]
variable {C : CC} (hC : Closed prog C)
include hC
end Go.Gv

set_option linter.unusedSimpArgs false
namespace Go.Gv

structure Lnk where
  name : List UInt8
  src : List UInt8
  dst : List UInt8
  kind : Int
  len : Int
  up : Int
  down : Int
  sect : List UInt8
  width : Int
  height : Int
  curveN : Bool
  curve : List (Int × Int)
  deriving Inhabited
def lnkC (l : Lnk) : List D := [.str l.name, .str l.src, .str l.dst, .int .i64 l.kind, .int .i64 l.len, .int .i64 l.up, .int .i64 l.down, .str l.sect, .int .i64 l.width, .int .i64 l.height, slx l.curveN (l.curve.map knD)]
structure Nod where
  name : List UInt8
  kind : Int
  x : Int
  y : Int
  invert : Int
  ground : Int
  shapeN : Bool
  shape : List (Int × Int)
  prot : Bool
  reserve : Int
  deriving Inhabited
def nodC (n : Nod) : List D := [.str n.name, .int .i64 n.kind, .int .i64 n.x, .int .i64 n.y, .int .i64 n.invert, .int .i64 n.ground, slx n.shapeN (n.shape.map knD), .bool n.prot, .int .i64 n.reserve]
def lvlOk (n : Int) : Bool := decide (-4194304 ≤ n) && decide (n ≤ 4194304)
variable {C : CC} (hC : Closed prog C)
include hC
theorem between_c (n a b : Int) : C 172 [.int .i64 n, .int .i64 a, .int .i64 b] (.bool (decide (a ≤ n) && decide (n ≤ b))) [] := by
  refine start hC (nf := N172_network_between) rfl rfl ?_
  simp [N172_network_between]
  refine brB_of (fun h => ?_) (fun h => ?_) <;> simp at h <;> simp [h] <;> omega
theorem lvlBad_c (n : Int) : C 183 [.int .i64 n] (.bool (!lvlOk n)) [] := by
  have e : (!lvlOk n) = (decide (n < -4194304) || decide (4194304 < n)) := by
    rw [lvlOk, Bool.eq_iff_iff]
    simp only [Bool.not_eq_true', Bool.and_eq_false_iff, decide_eq_false_iff_not, Bool.or_eq_true, decide_eq_true_eq]
    omega
  rw [e]
  refine start hC (nf := N183_network_level_1) rfl rfl ?_
  simp [N183_network_level_1]
  refine brB_of (fun h => ?_) (fun h => ?_) <;> simp at h <;> simp [h]
  intro _; omega
theorem level_c (xs : List Int) (hl : xs.length < 2 ^ 62) : C 173 [.sl (xs.map fun n => [.int .i64 n])] (.bool (xs.all lvlOk)) [] := by
  refine start hC (nf := N173_network_level) rfl rfl ?_
  simp [N173_network_level]
  have h := hasInt_c hC (b := false) (xs := xs) (g := 183) (cs := []) (fun n => !lvlOk n) hl (fun n _ => lvlBad_c hC n)
  rw [slx_false] at h
  refine callW_of h (.inl rfl) ?_
  simp
  rw [Bool.eq_iff_iff]; simp
end Go.Gv

set_option linter.unusedSimpArgs false
namespace Go.Gv
def nodIs (nm : List UInt8) (n : Nod) : Bool := n.name == nm
def lnkIs (nm : List UInt8) (l : Lnk) : Bool := l.name == nm
variable {C : CC} (hC : Closed prog C)
include hC
theorem idxNod_c {b : Bool} {xs : List Nod} {g : Nat} {cs : List D} (p : Nod → Bool) (hs : xs.length < 2 ^ 62) (hp : ∀ x ∈ xs, C g (.agg (nodC x) :: cs) (.bool (p x)) []) : C 175 [slx b (xs.map fun x => nodC x), .fn g cs] (.int .i64 (idxD p xs)) [] := by
  refine start hC (nf := N175_slices_IndexFunc__api_Node_api_Node) rfl rfl ?_
  simp [N175_slices_IndexFunc__api_Node_api_Node]
  refine loop_of Nat (fun i => [(0, slx b (xs.map fun x => nodC x)), (1, .fn g cs), (7, .int .i64 xs.length), (8, .int .i64 i)]) (fun i => i ≤ xs.length ∧ ∀ (j : Nat) (h : j < xs.length), j < i → p xs[j] = false) (fun i => xs.length - i) 0 (by simp) (by simp) ?_
  rintro i ⟨hi, hj⟩
  simp
  refine brB_of (fun h => ?_) (fun h => ?_) <;> simp [h] <;> simp at h
  · have hw : IntKind.wrap .i64 ((i : Int) + 1) = ((i + 1 : Nat) : Int) := wrap_i64 (by omega) (by omega)
    have hc := hp _ (List.getElem_mem h)
    simp [h, nodC] at hc ⊢
    refine callW_of hc (.inl rfl) ?_
    simp
    refine brB_of (fun h1 => ?_) (fun h1 => ?_) <;> simp [h1, hw]
    · rw [idxD_step hj h h1]
    · refine ⟨i + 1, ⟨by omega, fun j hl hjj => ?_⟩, by omega, rfl⟩
      rcases Nat.lt_succ_iff_lt_or_eq.1 hjj with h2 | rfl
      · exact hj j hl h2
      · exact h1
  · rw [idxD_none (fun j hl => hj j hl (by omega))]
theorem idxLnk_c {b : Bool} {xs : List Lnk} {g : Nat} {cs : List D} (p : Lnk → Bool) (hs : xs.length < 2 ^ 62) (hp : ∀ x ∈ xs, C g (.agg (lnkC x) :: cs) (.bool (p x)) []) : C 181 [slx b (xs.map fun x => lnkC x), .fn g cs] (.int .i64 (idxD p xs)) [] := by
  refine start hC (nf := N181_slices_IndexFunc__api_Link_api_Link) rfl rfl ?_
  simp [N181_slices_IndexFunc__api_Link_api_Link]
  refine loop_of Nat (fun i => [(0, slx b (xs.map fun x => lnkC x)), (1, .fn g cs), (7, .int .i64 xs.length), (8, .int .i64 i)]) (fun i => i ≤ xs.length ∧ ∀ (j : Nat) (h : j < xs.length), j < i → p xs[j] = false) (fun i => xs.length - i) 0 (by simp) (by simp) ?_
  rintro i ⟨hi, hj⟩
  simp
  refine brB_of (fun h => ?_) (fun h => ?_) <;> simp [h] <;> simp at h
  · have hw : IntKind.wrap .i64 ((i : Int) + 1) = ((i + 1 : Nat) : Int) := wrap_i64 (by omega) (by omega)
    have hc := hp _ (List.getElem_mem h)
    simp [h, lnkC] at hc ⊢
    refine callW_of hc (.inl rfl) ?_
    simp
    refine brB_of (fun h1 => ?_) (fun h1 => ?_) <;> simp [h1, hw]
    · rw [idxD_step hj h h1]
    · refine ⟨i + 1, ⟨by omega, fun j hl hjj => ?_⟩, by omega, rfl⟩
      rcases Nat.lt_succ_iff_lt_or_eq.1 hjj with h2 | rfl
      · exact hj j hl h2
      · exact h1
  · rw [idxD_none (fun j hl => hj j hl (by omega))]
theorem idxKn_c {b : Bool} {xs : List (Int × Int)} {g : Nat} {cs : List D} (p : (Int × Int) → Bool) (hs : xs.length < 2 ^ 62) (hp : ∀ x ∈ xs, C g (.agg (knD x) :: cs) (.bool (p x)) []) : C 185 [slx b (xs.map fun x => knD x), .fn g cs] (.int .i64 (idxD p xs)) [] := by
  refine start hC (nf := N185_slices_IndexFunc_api_Table_api_Knot) rfl rfl ?_
  simp [N185_slices_IndexFunc_api_Table_api_Knot]
  refine loop_of Nat (fun i => [(0, slx b (xs.map fun x => knD x)), (1, .fn g cs), (7, .int .i64 xs.length), (8, .int .i64 i)]) (fun i => i ≤ xs.length ∧ ∀ (j : Nat) (h : j < xs.length), j < i → p xs[j] = false) (fun i => xs.length - i) 0 (by simp) (by simp) ?_
  rintro i ⟨hi, hj⟩
  simp
  refine brB_of (fun h => ?_) (fun h => ?_) <;> simp [h] <;> simp at h
  · have hw : IntKind.wrap .i64 ((i : Int) + 1) = ((i + 1 : Nat) : Int) := wrap_i64 (by omega) (by omega)
    have hc := hp _ (List.getElem_mem h)
    simp [h, knD] at hc ⊢
    refine callW_of hc (.inl rfl) ?_
    simp
    refine brB_of (fun h1 => ?_) (fun h1 => ?_) <;> simp [h1, hw]
    · rw [idxD_step hj h h1]
    · refine ⟨i + 1, ⟨by omega, fun j hl hjj => ?_⟩, by omega, rfl⟩
      rcases Nat.lt_succ_iff_lt_or_eq.1 hjj with h2 | rfl
      · exact hj j hl h2
      · exact h1
  · rw [idxD_none (fun j hl => hj j hl (by omega))]
theorem hasKn_c {b : Bool} {xs : List (Int × Int)} {g : Nat} {cs : List D} (p : (Int × Int) → Bool) (hs : xs.length < 2 ^ 62) (hp : ∀ x ∈ xs, C g (.agg (knD x) :: cs) (.bool (p x)) []) : C 179 [slx b (xs.map fun x => knD x), .fn g cs] (.bool (xs.any p)) [] := by
  refine start hC (nf := N179_slices_ContainsFunc_api_Table_api_Knot) rfl rfl ?_
  simp [N179_slices_ContainsFunc_api_Table_api_Knot]
  refine callW_of (idxKn_c hC p hs hp) (.inl rfl) ?_
  simp [idxD_any]
theorem node_c (b1 b2 : Bool) (ns : List Nod) (ls : List Lnk) (nm : List UInt8) (hn : ns.length < 2 ^ 62) : C 169 [.agg [slx b1 (ns.map nodC), slx b2 (ls.map lnkC)], .str nm] (.int .i64 (idxD (nodIs nm) ns)) [] := by
  have h1 : ∀ x ∈ ns, C 176 (.agg (nodC x) :: [.ptr [.str nm]]) (.bool (nodIs nm x)) [] := fun x _ => by
    refine start hC (nf := N176_network_node_1) rfl rfl ?_
    simp [N176_network_node_1, nodC, nodIs]
    rw [Bool.eq_iff_iff]; simp
  refine start hC (nf := N169_network_node) rfl rfl ?_
  simp [N169_network_node]
  refine callW_of (idxNod_c hC (b := b1) _ hn h1) (.inl rfl) ?_
  simp
theorem link_c (b1 b2 : Bool) (ns : List Nod) (ls : List Lnk) (nm : List UInt8) (hn : ls.length < 2 ^ 62) : C 171 [.agg [slx b1 (ns.map nodC), slx b2 (ls.map lnkC)], .str nm] (.int .i64 (idxD (lnkIs nm) ls)) [] := by
  have h1 : ∀ x ∈ ls, C 182 (.agg (lnkC x) :: [.ptr [.str nm]]) (.bool (lnkIs nm x)) [] := fun x _ => by
    refine start hC (nf := N182_network_link_1) rfl rfl ?_
    simp [N182_network_link_1, lnkC, lnkIs]
    rw [Bool.eq_iff_iff]; simp
  refine start hC (nf := N171_network_link) rfl rfl ?_
  simp [N171_network_link]
  refine callW_of (idxLnk_c hC (b := b2) _ hn h1) (.inl rfl) ?_
  simp
theorem eqKn_c (b b' : Bool) (xs ys : List (Int × Int)) (hx : xs.length < 2 ^ 62) (hy : ys.length < 2 ^ 62) : C 184 [slx b (xs.map knD), slx b' (ys.map knD)] (.bool (decide (xs = ys))) [] := by
  obtain ⟨r, hr⟩ : ∃ r, r = decide (xs = ys) := ⟨_, rfl⟩
  rw [← hr]
  refine start hC (nf := N184_slices_Equal_api_Table_api_Knot) rfl rfl ?_
  simp [N184_slices_Equal_api_Table_api_Knot]
  refine brB_of (fun h => ?_) (fun h => ?_) <;> simp at h <;> simp [h]
  · rw [hr, decide_eq_false]
    intro e
    exact h (by rw [e])
  have h' : xs.length = ys.length := by omega
  refine loop_of Nat (fun i => [(0, slx b (xs.map knD)), (1, slx b' (ys.map knD)), (12, .int .i64 xs.length), (13, .int .i64 i)])
    (fun i => i ≤ xs.length ∧ ∀ (k : Nat) (h1 : k < xs.length) (h2 : k < ys.length), k < i → xs[k] = ys[k]) (fun i => xs.length - i) 0 (by simp) (by simp [h']) ?_
  rintro i ⟨hi, hok⟩
  simp
  refine brB_of (fun h1 => ?_) (fun h1 => ?_) <;> simp at h1 <;> simp [h1]
  · have hw : IntKind.wrap .i64 ((i : Int) + 1) = ((i + 1 : Nat) : Int) := wrap_i64 (by omega) (by omega)
    have hy1 : i < ys.length := by omega
    simp [h1, hy1, knD]
    refine ⟨indW_of (by decide +kernel), ?_⟩
    by_cases h2 : xs[i] = ys[i]
    · simp [h2, hw]
      refine ⟨i + 1, ⟨by omega, fun k k1 k2 hk => ?_⟩, by omega, rfl⟩
      rcases Nat.lt_succ_iff_lt_or_eq.1 hk with h5 | rfl
      · exact hok k k1 k2 h5
      · exact h2
    · have h3 : ¬ (xs[i].1 = ys[i].1 ∧ xs[i].2 = ys[i].2) := fun e => h2 (Prod.ext e.1 e.2)
      refine brB_of (fun h4 => ?_) (fun h4 => ?_) <;> simp at h4 <;> simp [h4]
      · rw [hr, decide_eq_false]
        intro e
        exact h2 (by simp [e])
      · exact absurd h4 h3
  · rw [hr, decide_eq_true]
    exact List.ext_getElem h' fun k k1 k2 => hok k k1 k2 (by omega)
end Go.Gv

set_option linter.unusedSimpArgs false
namespace Go.Gv

def lastK (t : List (Int × Int)) : Int × Int := t[t.length - 1]!
def curveOk (t : List (Int × Int)) (hgt most : Int) : Bool := tableValid t && (t[0]!.1 == 0 && t[0]!.2 == 0) && (lastK t).1 == hgt && (lastK t).2 ≤ most
def secValid (s : Sec) : Bool := isName s.name && 1 ≤ s.height && s.height ≤ 32768 && 0 ≤ s.price && s.price ≤ 1073741824 && curveOk s.area s.height 1073741824 && curveOk s.conv s.height 1099511627776
def slopeOk (n l : Int) : Bool := 0 ≤ n && n ≤ 4194304 && 1 ≤ l && l ≤ 16777216
/-- The capacity, without a limit. -/
def capN (s : Sec) (fall len : Int) : Nat := rootN ((lastK s.conv).2.toNat * (lastK s.conv).2.toNat * fall.toNat / len.toNat)
def fullF (s : Sec) (fall len : Int) : Int × Int := if secValid s then (if slopeOk fall len then (if 1099511627776 < capN s fall len then (0, 5) else (capN s fall len, 0)) else (0, 2)) else (0, 1)

theorem lastK_get {t : List (Int × Int)} {n : Nat} (hn : n + 1 = t.length) : lastK t = t[n] := by
  unfold lastK
  rw [show t.length - 1 = n by omega, getElem!_pos t n (by omega)]

variable {C : CC} (hC : Closed prog C)
include hC
end Go.Gv

set_option linter.unusedSimpArgs false
namespace Go.Gv
def lowHigh (n a b : Int) : Bool := decide (a ≤ n) && decide (n ≤ b)
def plainF (l : Lnk) : Lnk where
  name := l.name
  src := l.src
  dst := l.dst
  kind := l.kind
  len := if l.kind = 1 then l.len else 0
  up := l.up
  down := if l.kind = 1 ∨ l.kind = 4 then l.down else 0
  sect := if l.kind = 1 then l.sect else []
  width := if l.kind = 2 ∨ l.kind = 3 then l.width else 0
  height := if l.kind = 3 then l.height else 0
  curveN := if l.kind = 4 then l.curveN else true
  curve := if l.kind = 4 then l.curve else []
def sameL (a b : Lnk) : Bool := decide (a.name = b.name) && decide (a.src = b.src) && decide (a.dst = b.dst) && decide (a.kind = b.kind) && decide (a.len = b.len) && decide (a.up = b.up) && decide (a.down = b.down) && decide (a.sect = b.sect) && decide (a.width = b.width) && decide (a.height = b.height) && decide (a.curve = b.curve)
def pumpOk (k : Int × Int) : Bool := lowHigh k.1 0 4194304 && lowHigh k.2 0 1099511627776
def kindOk (l : Lnk) : Bool :=
  if l.kind = 1 then lowHigh l.len 1 16777216 && lvlOk l.down && isName l.sect
  else if l.kind = 2 then lowHigh l.width 1 1048576
  else if l.kind = 3 then lowHigh l.width 1 32768 && lowHigh l.height 1 32768
  else if l.kind = 4 then lvlOk l.down && decide (l.down < l.up) && tableValid l.curve && !(l.curve.any fun k => !pumpOk k)
  else false
def linkOk (l : Lnk) : Bool := isName l.name && isName l.src && isName l.dst && !decide (l.src = l.dst) && lvlOk l.up && sameL l (plainF l) && kindOk l
variable {C : CC} (hC : Closed prog C)
include hC
theorem plain_c (l : Lnk) : C 178 [.agg (lnkC l)] (.agg (lnkC (plainF l))) [] := by
  have hs : slx l.curveN (l.curve.map knD) = .nils ∨ slx l.curveN (l.curve.map knD) = .sl (l.curve.map knD) := by
    unfold slx; split
    · exact .inl rfl
    · exact .inr rfl
  have e0 : D.nils = slx true [] := rfl
  refine start hC (nf := N178_network_plain) rfl rfl ?_
  simp [N178_network_plain, lnkC, plainF]
  refine brB_of (fun h => ?_) (fun h => ?_) <;> simp at h <;> simp [h]
  · exact ⟨indW_of (by decide +kernel), e0⟩
  refine brB_of (fun h2 => ?_) (fun h2 => ?_) <;> simp at h2 <;> simp [h, h2]
  · exact e0
  refine brB_of (fun h3 => ?_) (fun h3 => ?_) <;> simp at h3 <;> simp [h, h2, h3]
  · exact ⟨indW_of (by decide +kernel), e0⟩
  refine brB_of (fun h4 => ?_) (fun h4 => ?_) <;> simp at h4 <;> simp [h, h2, h3, h4]
  · rcases hs with hs | hs <;> rw [hs] <;> simp
    · refine ⟨indW_of (by decide +kernel), ?_⟩
      simp [h4, hs]
    · refine ⟨indW_of (by decide +kernel), ?_⟩
      simp [h4, hs]
  · exact e0
set_option maxRecDepth 8000 in
set_option maxHeartbeats 2000000 in
theorem sameL_c (a b : Lnk) (ha : a.curve.length < 2 ^ 62) (hb : b.curve.length < 2 ^ 62) : C 177 [.agg (lnkC a), .agg (lnkC b)] (.bool (sameL a b)) [] := by
  have he := eqKn_c hC a.curveN b.curveN a.curve b.curve ha hb
  refine start hC (nf := N177_network_sameLink) rfl rfl ?_
  simp [N177_network_sameLink, lnkC]
  refine brB_of (fun h0 => ?_) (fun h0 => ?_) <;> simp at h0 <;> simp [h0]
  rotate_left
  · simp [sameL, h0]
  refine brB_of (fun h1 => ?_) (fun h1 => ?_) <;> simp at h1 <;> simp [h1]
  rotate_left
  · simp [sameL, h1]
  refine brB_of (fun h2 => ?_) (fun h2 => ?_) <;> simp at h2 <;> simp [h2]
  rotate_left
  · simp [sameL, h2]
  refine brB_of (fun h3 => ?_) (fun h3 => ?_) <;> simp at h3 <;> simp [h3]
  rotate_left
  · simp [sameL, h3]
  refine brB_of (fun h4 => ?_) (fun h4 => ?_) <;> simp at h4 <;> simp [h4]
  rotate_left
  · simp [sameL, h4]
  refine brB_of (fun h5 => ?_) (fun h5 => ?_) <;> simp at h5 <;> simp [h5]
  rotate_left
  · simp [sameL, h5]
  refine brB_of (fun h6 => ?_) (fun h6 => ?_) <;> simp at h6 <;> simp [h6]
  rotate_left
  · simp [sameL, h6]
  refine brB_of (fun h7 => ?_) (fun h7 => ?_) <;> simp at h7 <;> simp [h7]
  rotate_left
  · simp [sameL, h7]
  refine brB_of (fun h8 => ?_) (fun h8 => ?_) <;> simp at h8 <;> simp [h8]
  rotate_left
  · simp [sameL, h8]
  refine brB_of (fun h9 => ?_) (fun h9 => ?_) <;> simp at h9 <;> simp [h9]
  rotate_left
  · simp [sameL, h9]
  refine callW_of he (.inl rfl) ?_
  simp [sameL, h0, h1, h2, h3, h4, h5, h6, h7, h8, h9]
theorem pumpBad_c (k : Int × Int) : C 180 [.agg (knD k)] (.bool (!pumpOk k)) [] := by
  refine start hC (nf := N180_network_rightLink_1) rfl rfl ?_
  simp [N180_network_rightLink_1, knD]
  refine callW_of (between_c hC k.1 0 4194304) (.inl rfl) ?_
  have e1 : (decide (0 ≤ k.1) && decide (k.1 ≤ 4194304)) = lowHigh k.1 0 4194304 := rfl
  rw [e1]
  cases h : lowHigh k.1 0 4194304
  · simp [pumpOk, h]
  simp
  refine callW_of (between_c hC k.2 0 1099511627776) (.inl rfl) ?_
  have e2 : (decide (0 ≤ k.2) && decide (k.2 ≤ 1099511627776)) = lowHigh k.2 0 1099511627776 := rfl
  rw [e2]
  simp [pumpOk, h]
theorem linkOk_c (l : Lnk) (hc : l.curve.length < 2 ^ 62) : C 170 [.agg (lnkC l)] (.bool (linkOk l)) [] := by
  have hp : (plainF l).curve.length < 2 ^ 62 := by
    simp only [plainF]; split
    · exact hc
    · simp
  have k1 := IsName_c hC l.name
  have k2 := IsName_c hC l.src
  have k3 := IsName_c hC l.dst
  have k4 := level_c hC [l.up] (by simp)
  have k5 := plain_c hC l
  have k6 := sameL_c hC l (plainF l) hc hp
  obtain ⟨q, hq⟩ : ∃ q, q = sameL l (plainF l) := ⟨_, rfl⟩
  rw [← hq] at k6
  simp only [lnkC] at k5 k6
  have kf : ∀ b, kindOk l = b → (b = false ∨ (isName l.name = true ∧ isName l.src = true ∧ isName l.dst = true ∧ ¬ l.src = l.dst ∧ lvlOk l.up = true ∧ q = true)) → linkOk l = b := fun b h1 h2 => by
    rcases h2 with rfl | ⟨a1, a2, a3, a4, a5, a6⟩
    · simp [linkOk, h1]
    · simp [linkOk, h1, a1, a2, a3, a4, a5, ← hq, a6]
  refine start hC (nf := N170_network_rightLink) rfl rfl ?_
  simp [N170_network_rightLink, lnkC]
  refine callW_of k1 (.inl rfl) ?_
  cases h1 : isName l.name
  · simp
    refine ⟨indW_of (by decide +kernel), ?_⟩
    simp [linkOk, h1]
  simp
  refine callW_of k2 (.inl rfl) ?_
  cases h2 : isName l.src
  · simp
    refine ⟨indW_of (by decide +kernel), ?_⟩
    simp [linkOk, h2]
  simp
  refine callW_of k3 (.inl rfl) ?_
  cases h3 : isName l.dst
  · simp
    refine ⟨indW_of (by decide +kernel), ?_⟩
    simp [linkOk, h3]
  simp
  refine brB_of (fun h4 => ?_) (fun h4 => ?_) <;> simp at h4 <;> simp [h4]
  · refine ⟨indW_of (by decide +kernel), ?_⟩
    simp [linkOk, h4]
  refine callW_of k4 (.inl rfl) ?_
  cases h5 : lvlOk l.up
  · simp [h5]
    refine ⟨indW_of (by decide +kernel), ?_⟩
    simp [linkOk, h5]
  simp [h5]
  refine callW_of k5 (.inr rfl) ?_
  simp
  refine callW_of k6 (.inl rfl) ?_
  cases h6 : q
  · simp
    refine ⟨indW_of (by decide +kernel), ?_⟩
    simp [linkOk, ← hq, h6]
  simp
  refine ⟨indW_of (by decide +kernel), ?_⟩
  have hk : linkOk l = kindOk l := kf _ rfl (.inr ⟨h1, h2, h3, h4, h5, h6⟩)
  rw [hk]
  obtain ⟨r, hr⟩ : ∃ r, r = kindOk l := ⟨_, rfl⟩
  rw [← hr]
  unfold kindOk at hr
  clear k1 k2 k3 k4 k5 k6 hk kf
  have lh : ∀ n a b : Int, (decide (a ≤ n) && decide (n ≤ b)) = lowHigh n a b := fun _ _ _ => rfl
  have kd := level_c hC [l.down] (by simp)
  refine brB_of (fun h7 => ?_) (fun h7 => ?_) <;> simp at h7 <;> simp [h7]
  · rw [if_pos h7] at hr
    refine callW_of (between_c hC l.len 1 16777216) (.inl rfl) ?_
    rw [lh]
    cases a1 : lowHigh l.len 1 16777216
    · simp [hr, a1]
    simp
    refine callW_of kd (.inl rfl) ?_
    cases a2 : lvlOk l.down
    · simp [a2, hr]
    simp [a2]
    refine callW_of (IsName_c hC l.sect) (.inl rfl) ?_
    simp [hr, a1, a2]
  rw [if_neg h7] at hr
  refine brB_of (fun h8 => ?_) (fun h8 => ?_) <;> simp at h8 <;> simp [h8]
  · rw [if_pos h8] at hr
    refine callW_of (between_c hC l.width 1 1048576) (.inl rfl) ?_
    rw [lh]
    simp [hr]
  rw [if_neg h8] at hr
  refine brB_of (fun h9 => ?_) (fun h9 => ?_) <;> simp at h9 <;> simp [h9]
  · rw [if_pos h9] at hr
    refine callW_of (between_c hC l.width 1 32768) (.inl rfl) ?_
    rw [lh]
    cases a1 : lowHigh l.width 1 32768
    · simp [hr, a1]
    simp
    refine callW_of (between_c hC l.height 1 32768) (.inl rfl) ?_
    rw [lh]
    simp [hr, a1]
  rw [if_neg h9] at hr
  refine brB_of (fun h10 => ?_) (fun h10 => ?_) <;> simp at h10 <;> simp [h10]
  · rw [if_pos h10] at hr
    refine callW_of kd (.inl rfl) ?_
    cases a2 : lvlOk l.down
    · simp [a2, hr]
    simp [a2]
    refine brB_of (fun h11 => ?_) (fun h11 => ?_) <;> simp at h11 <;> simp [h11]
    · refine callW_of (tableValid_c hC l.curveN l.curve) (.inl rfl) ?_
      cases a3 : tableValid l.curve
      · simp [hr, a3]
      simp
      refine callW_of (hasKn_c hC (b := l.curveN) (xs := l.curve) (g := 180) (cs := []) (fun k => !pumpOk k) hc (fun k _ => pumpBad_c hC k)) (.inl rfl) ?_
      simp [hr, a2, h11, a3]
    · have : ¬ l.down < l.up := by omega
      simp [hr, this]
  · rw [if_neg h10] at hr
    simp [hr]
end Go.Gv

set_option linter.unusedSimpArgs false
namespace Go.Gv
def storeOk (n : Nod) : Bool := !(decide (n.ground ≤ n.invert)) && curveOk n.shape (n.ground - n.invert) 1125899906842624 && !(decide (n.kind = 1) && n.prot) && (if n.prot then lowHigh n.reserve 0 (lastK n.shape).2 else decide (n.reserve = 0))
def outOk (n : Nod) : Bool := decide (n.invert ≤ n.ground) && decide (n.shape.length = 0) && !n.prot && decide (n.reserve = 0)
def nodOk (n : Nod) : Bool := isName n.name && lowHigh n.x (-16777216) 16777216 && lowHigh n.y (-16777216) 16777216 && lvlOk n.invert && lvlOk n.ground && (if n.kind = 1 ∨ n.kind = 2 then storeOk n else if n.kind = 3 then outOk n else false)
variable {C : CC} (hC : Closed prog C)
include hC
theorem shaped_c (b : Bool) (t : List (Int × Int)) (hgt : Int) : C 174 [slx b (t.map knD), .int .i64 hgt] (.bool (curveOk t hgt 1125899906842624)) [] := by
  refine start hC (nf := N174_network_shaped) rfl rfl ?_
  simp [N174_network_shaped]
  refine callW_of (tableValid_c hC b t) (.inl rfl) ?_
  cases hv : tableValid t
  · simp [curveOk, hv]
  obtain ⟨l1, l2⟩ := valid_len hv
  obtain ⟨n, hn⟩ : ∃ n, n + 1 = t.length := ⟨t.length - 1, by omega⟩
  have e1 : IntKind.wrap .i64 ((t.length : Int) - 1) = (n : Int) := wrap_i64 (by omega) (by omega)
  have hnl : n < t.length := by omega
  have h0 : 0 < t.length := by omega
  have e0 : t[0]! = t[0] := getElem!_pos t 0 h0
  simp [e1, hnl, h0, knD]
  rw [curveOk, lastK_get hn, e0, hv]
  have ez : (decide (t[0].fst = 0) && decide (t[0].snd = 0)) = (t[0].1 == 0 && t[0].2 == 0) := by rw [Bool.eq_iff_iff]; simp
  rw [← ez]
  cases hz : (decide (t[0].fst = 0) && decide (t[0].snd = 0))
  · simp
  simp
  refine brB_of (fun c => ?_) (fun c => ?_)
  · simp at c
    simp [c]
  · simp at c
    simp [c]
theorem nodOk_c (n : Nod) : C 168 [.agg (nodC n)] (.bool (nodOk n)) [] := by
  have lh : ∀ n a b : Int, (decide (a ≤ n) && decide (n ≤ b)) = lowHigh n a b := fun _ _ _ => rfl
  have k1 := IsName_c hC n.name
  have k2 := between_c hC n.x (-16777216) 16777216
  have k3 := between_c hC n.y (-16777216) 16777216
  have k4 := level_c hC [n.invert, n.ground] (by simp)
  rw [lh] at k2 k3
  obtain ⟨q, hq⟩ : ∃ q, q = nodOk n := ⟨_, rfl⟩
  rw [← hq]
  unfold nodOk at hq
  refine start hC (nf := N168_network_rightNode) rfl rfl ?_
  simp [N168_network_rightNode, nodC]
  refine callW_of k1 (.inl rfl) ?_
  cases h1 : isName n.name
  · simp [hq, h1]
  simp
  refine callW_of k2 (.inl rfl) ?_
  cases h2 : lowHigh n.x (-16777216) 16777216
  · simp [hq, h2]
  simp
  refine callW_of k3 (.inl rfl) ?_
  cases h3 : lowHigh n.y (-16777216) 16777216
  · simp [hq, h3]
  simp
  refine callW_of k4 (.inl rfl) ?_
  cases h4 : lvlOk n.invert
  · simp [hq, h4]
  cases h5 : lvlOk n.ground
  · simp [hq, h4, h5]
  simp [h4, h5]
  rw [h1, h2, h3, h4, h5] at hq
  simp only [Bool.true_and] at hq
  have b1 : -4194304 ≤ n.invert ∧ n.invert ≤ 4194304 := by simpa [lvlOk] using h4
  have b2 : -4194304 ≤ n.ground ∧ n.ground ≤ 4194304 := by simpa [lvlOk] using h5
  have e1 : IntKind.wrap .i64 (n.ground - n.invert) = n.ground - n.invert := wrap_i64 rfl (by omega)
  refine brB_of (fun hk1 => ?_) (fun hk1 => ?_) <;> simp at hk1 <;> simp [hk1]
  · rw [if_pos (by omega), storeOk] at hq
    refine brB_of (fun c1 => ?_) (fun c1 => ?_) <;> simp at c1 <;> simp [c1]
    · simp [hq, c1]
    have c1' : ¬ n.ground ≤ n.invert := by omega
    simp [e1]
    refine callW_of (shaped_c hC n.shapeN n.shape (n.ground - n.invert)) (.inl rfl) ?_
    cases c2 : curveOk n.shape (n.ground - n.invert) 1125899906842624
    · simp [hq, c2]
    simp [hk1]
    cases c3 : n.prot
    · simp [hq, c1', c2, c3]
    · simp [hq, c3, hk1]
  refine brB_of (fun hk2 => ?_) (fun hk2 => ?_) <;> simp at hk2 <;> simp [hk2, hk1]
  · rw [if_pos (by omega), storeOk] at hq
    refine brB_of (fun c1 => ?_) (fun c1 => ?_) <;> simp at c1 <;> simp [c1]
    · simp [hq, c1]
    have c1' : ¬ n.ground ≤ n.invert := by omega
    simp [e1]
    refine callW_of (shaped_c hC n.shapeN n.shape (n.ground - n.invert)) (.inl rfl) ?_
    cases c2 : curveOk n.shape (n.ground - n.invert) 1125899906842624
    · simp [hq, c2]
    simp [hk2]
    cases c3 : n.prot
    · simp [hq, c1', c2, c3]
    have hv : tableValid n.shape = true := by
      simp only [curveOk, Bool.and_eq_true] at c2
      exact c2.1.1.1
    obtain ⟨l1, l2⟩ := valid_len hv
    obtain ⟨m, hm⟩ : ∃ m, m + 1 = n.shape.length := ⟨n.shape.length - 1, by omega⟩
    have e2 : IntKind.wrap .i64 ((n.shape.length : Int) - 1) = (m : Int) := wrap_i64 (by omega) (by omega)
    have hml : m < n.shape.length := by omega
    simp [e2, hml, knD]
    have kb := between_c hC n.reserve 0 n.shape[m].2
    rw [lh] at kb
    refine callW_of kb (.inl rfl) ?_
    simp
    refine ⟨indW_of (by decide +kernel), ?_⟩
    simp [hq, c1', c2, c3, hk2, lastK_get hm]
  rw [if_neg (by omega)] at hq
  refine brB_of (fun hk3 => ?_) (fun hk3 => ?_) <;> simp at hk3 <;> simp [hk3]
  · rw [if_pos hk3, outOk] at hq
    refine brB_of (fun c1 => ?_) (fun c1 => ?_) <;> simp at c1 <;> simp [c1]
    · refine brB_of (fun c2 => ?_) (fun c2 => ?_) <;> simp at c2 <;> simp [c2]
      · cases c3 : n.prot
        · simp [hq, c1, c2, c3]
        · simp [hq, c3]
      · simp [hq, c2]
    · have : ¬ n.invert ≤ n.ground := by omega
      simp [hq, this]
  · rw [if_neg hk3] at hq
    simp [hq]
end Go.Gv

set_option linter.unusedSimpArgs false
namespace Go.Gv
def nodAt (ns : List Nod) (i : Nat) : Bool := nodOk ns[i]! && decide (idxD (nodIs ns[i]!.name) ns = (i : Int))
def fromOk (ns : List Nod) (nm : List UInt8) : Bool := decide (0 ≤ idxD (nodIs nm) ns) && !decide (ns[(idxD (nodIs nm) ns).toNat]!.kind = 3)
def lnkAt (ns : List Nod) (ls : List Lnk) (i : Nat) : Bool := linkOk ls[i]! && decide (idxD (lnkIs ls[i]!.name) ls = (i : Int)) && fromOk ns ls[i]!.src && decide (0 ≤ idxD (nodIs ls[i]!.dst) ns)
def netOk (ns : List Nod) (ls : List Lnk) : Bool := decide (ns.length ≤ 300) && decide (ls.length ≤ 400) && (List.range ns.length).all (nodAt ns) && (List.range ls.length).all (lnkAt ns ls)
theorem idxD_lt {α : Type} {p : α → Bool} {xs : List α} (h : 0 ≤ idxD p xs) : (idxD p xs).toNat < xs.length := by
  unfold idxD at h ⊢
  cases e : xs.findIdx? p with
  | none => rw [e] at h; simp at h
  | some i =>
    simp
    obtain ⟨h1, _⟩ := List.findIdx?_eq_some_iff_getElem.1 e
    exact h1
variable {C : CC} (hC : Closed prog C)
include hC
theorem netOk_c (b1 b2 : Bool) (ns : List Nod) (ls : List Lnk) (hcv : ∀ l ∈ ls, l.curve.length < 2 ^ 62) : C 164 [.agg [slx b1 (ns.map nodC), slx b2 (ls.map lnkC)]] (.bool (netOk ns ls)) [] := by
  obtain ⟨r, hr⟩ : ∃ r, r = netOk ns ls := ⟨_, rfl⟩
  rw [← hr]
  unfold netOk at hr
  refine start hC (nf := N164_network_Valid) rfl rfl ?_
  simp [N164_network_Valid]
  refine brB_of (fun c => ?_) (fun c => ?_) <;> simp at c <;> simp [c]
  · simp [hr, show ¬ ns.length ≤ 300 by omega]
  refine brB_of (fun c2 => ?_) (fun c2 => ?_) <;> simp at c2 <;> simp [c2]
  · simp [hr, show ¬ ls.length ≤ 400 by omega]
  rw [decide_eq_true (show ns.length ≤ 300 by omega), decide_eq_true (show ls.length ≤ 400 by omega)] at hr
  simp only [Bool.true_and] at hr
  have badN : ∀ i, i < ns.length → nodAt ns i = false → r = false := fun i hi h => by
    rw [hr, Bool.and_eq_false_iff]
    exact .inl (List.all_eq_false.2 ⟨i, by simpa using hi, by simp [h]⟩)
  have badL : ∀ i, i < ls.length → lnkAt ns ls i = false → r = false := fun i hi h => by
    rw [hr, Bool.and_eq_false_iff]
    exact .inr (List.all_eq_false.2 ⟨i, by simpa using hi, by simp [h]⟩)
  refine loop_of Nat (fun i => [(1, .ptr [slx b1 (ns.map nodC), slx b2 (ls.map lnkC)]), (19, slx b1 (ns.map nodC)), (20, .int .i64 ns.length), (21, .int .i64 i)]) (fun i => i ≤ ns.length ∧ ∀ j < i, nodAt ns j = true) (fun i => ns.length - i) 0 (by simp) (by simp) ?_
  rintro i ⟨hi, hj⟩
  simp
  refine brB_of (fun h => ?_) (fun h => ?_) <;> simp at h <;> simp [h]
  · have hw : IntKind.wrap .i64 ((i : Int) + 1) = ((i + 1 : Nat) : Int) := wrap_i64 (by omega) (by omega)
    have bad := badN i h
    have e1 : ns[i]! = ns[i] := getElem!_pos ns i h
    simp only [nodAt, e1] at bad
    have k1 := nodOk_c hC ns[i]
    have k2 := node_c hC b1 b2 ns ls ns[i].name (by omega)
    simp only [nodC] at k1
    simp [nodC, h]
    refine callW_of k1 (.inl rfl) ?_
    cases g1 : nodOk ns[i]
    · simp
      exact bad (by simp [g1])
    simp
    refine callW_of k2 (.inl rfl) ?_
    simp
    refine brB_of (fun g2 => ?_) (fun g2 => ?_) <;> simp at g2 <;> simp [g2]
    · exact bad (by simp [g2])
    · simp [hw]
      refine ⟨i + 1, ⟨by omega, fun k hk => ?_⟩, by omega, by simp⟩
      rcases Nat.lt_succ_iff_lt_or_eq.1 hk with h5 | rfl
      · exact hj k h5
      · simp [nodAt, e1, g1, g2]
  have hall : (List.range ns.length).all (nodAt ns) = true := by
    rw [List.all_eq_true]
    intro k hk
    exact hj k (by simp at hk; omega)
  rw [hall, Bool.true_and] at hr
  clear badN hall hj
  refine loop_of Nat (fun i => [(1, .ptr [slx b1 (ns.map nodC), slx b2 (ls.map lnkC)]), (39, slx b2 (ls.map lnkC)), (40, .int .i64 ls.length), (41, .int .i64 i)]) (fun i => i ≤ ls.length ∧ ∀ j < i, lnkAt ns ls j = true) (fun i => ls.length - i) 0 (by simp) (by simp) ?_
  clear h hi i
  rintro i ⟨hi, hj⟩
  simp
  refine brB_of (fun h => ?_) (fun h => ?_) <;> simp at h <;> simp [h]
  · have hw : IntKind.wrap .i64 ((i : Int) + 1) = ((i + 1 : Nat) : Int) := wrap_i64 (by omega) (by omega)
    have bad := badL i h
    have e1 : ls[i]! = ls[i] := getElem!_pos ls i h
    simp only [lnkAt, e1] at bad
    have k1 := linkOk_c hC ls[i] (hcv _ (List.getElem_mem h))
    have k2 := link_c hC b1 b2 ns ls ls[i].name (by omega)
    have k3 := node_c hC b1 b2 ns ls ls[i].src (by omega)
    have k4 := node_c hC b1 b2 ns ls ls[i].dst (by omega)
    have next : lnkAt ns ls i = true → ∃ s' : Nat, (s' ≤ ls.length ∧ ∀ j < s', lnkAt ns ls j = true) ∧ ls.length - s' < ls.length - i ∧ (i : Int) + 1 = s' := fun hl => by
      refine ⟨i + 1, ⟨by omega, fun k hk => ?_⟩, by omega, by simp⟩
      rcases Nat.lt_succ_iff_lt_or_eq.1 hk with h5 | rfl
      · exact hj k h5
      · exact hl
    simp only [lnkAt, e1] at next
    simp only [lnkC] at k1
    simp [lnkC, h]
    refine callW_of k1 (.inl rfl) ?_
    cases g1 : linkOk ls[i]
    · simp
      exact bad (by simp [g1])
    simp
    refine callW_of k2 (.inl rfl) ?_
    simp
    refine brB_of (fun g2 => ?_) (fun g2 => ?_) <;> simp at g2 <;> simp [g2]
    · exact bad (by simp [g2])
    refine callW_of k3 (.inl rfl) ?_
    simp
    refine brB_of (fun g3 => ?_) (fun g3 => ?_) <;> simp at g3 <;> simp [g3]
    · exact bad (by simp [fromOk, show ¬ 0 ≤ idxD (nodIs ls[i].src) ns by omega])
    have g3' : ¬ idxD (nodIs ls[i].src) ns < 0 := by omega
    refine callW_of k4 (.inl rfl) ?_
    simp
    refine brB_of (fun g4 => ?_) (fun g4 => ?_) <;> simp at g4 <;> simp [g4]
    · exact bad (by simp [show ¬ 0 ≤ idxD (nodIs ls[i].dst) ns by omega])
    have g4' : ¬ idxD (nodIs ls[i].dst) ns < 0 := by omega
    have hf := idxD_lt g3
    obtain ⟨f, hfe⟩ := Int.eq_ofNat_of_zero_le g3
    rw [hfe] at hf ⊢
    simp at hf
    have e2 : ns[f]! = ns[f] := getElem!_pos ns f hf
    have hfo : fromOk ns ls[i].src = !decide (ns[f].kind = 3) := by
      simp [fromOk, hfe, e2]
    simp [hf, nodC]
    refine brB_of (fun g5 => ?_) (fun g5 => ?_) <;> simp at g5 <;> simp [g5]
    · exact bad (by simp [hfo, g5])
    · simp [hw]
      exact next (by simp [hfo, g5, g1, g2, g4])
  · have hall : (List.range ls.length).all (lnkAt ns ls) = true := by
      rw [List.all_eq_true]
      intro k hk
      exact hj k (by simp at hk; omega)
    rw [hr, hall]
end Go.Gv

set_option linter.unusedSimpArgs false
namespace Go.Gv
def ordE (n : Nat) (es : List Edg) : Int := if (ordF n es).length < n then 22 else 0
def ordV (n : Nat) (es : List Edg) : D := if (ordF n es).length < n then .nils else ndD (ordF n es)
def treeF (n : Nat) (es : List Edg) : Bool := decide ((es.map (·.1)).Nodup) && decide ((ordF n es).length = n)
/-- The sources of the first j edges. -/
def srcT (es : List Edg) (j : Nat) : List Nat := (es.take j).map (·.1)
@[simp] theorem srcT_0 (es : List Edg) : srcT es 0 = [] := rfl
def edT (es : List Edg) (j : Nat) : List (List D) := (es.take j).map edK
theorem edT_succ {es : List Edg} {j : Nat} (h : j < es.length) : edT es (j + 1) = edT es j ++ [edK es[j]] := by
  unfold edT
  rw [List.take_succ_eq_append_getElem h, List.map_append]
  rfl
@[simp] theorem edT_0 (es : List Edg) : edT es 0 = [] := rfl
theorem edT_len {es : List Edg} {j : Nat} (h : j ≤ es.length) : (edT es j).length = j := by simp [edT]; omega
theorem edT_end (es : List Edg) : edT es es.length = es.map edK := by simp [edT]
theorem edT_V (es : List Edg) (j : Nat) : (edT es j).map (fun e => e.map cellV) = edT es j := by
  unfold edT
  rw [List.map_map]
  apply List.map_congr_left
  intro e _
  simp [edK, knD, cellV]
def seenA (n : Nat) (es : List Edg) (j : Nat) : List (List D) := (List.range n).map fun v => [.bool (decide (v ∈ srcT es j))]
/-- The edges of a network. -/
def edgN (ns : List Nod) (ls : List Lnk) : List Edg := ls.map fun l => ((idxD (nodIs l.src) ns).toNat, (idxD (nodIs l.dst) ns).toNat)
theorem edgN_len (ns : List Nod) (ls : List Lnk) : (edgN ns ls).length = ls.length := by simp [edgN]
theorem netOk_len {ns : List Nod} {ls : List Lnk} (h : netOk ns ls = true) : ns.length ≤ 300 ∧ ls.length ≤ 400 := by
  simp only [netOk, Bool.and_eq_true, decide_eq_true_eq] at h
  exact ⟨h.1.1.1, h.1.1.2⟩
theorem netOk_lnk {ns : List Nod} {ls : List Lnk} (h : netOk ns ls = true) {i : Nat} (hi : i < ls.length) : linkOk ls[i] = true ∧ idxD (lnkIs ls[i].name) ls = (i : Int) ∧ 0 ≤ idxD (nodIs ls[i].src) ns ∧ 0 ≤ idxD (nodIs ls[i].dst) ns := by
  simp only [netOk, Bool.and_eq_true, List.all_eq_true, List.mem_range] at h
  have := h.2 i hi
  simp only [lnkAt, getElem!_pos ls i hi, fromOk, Bool.and_eq_true, decide_eq_true_eq] at this
  exact ⟨this.1.1.1, this.1.1.2, this.1.2.1, this.2⟩
theorem edgN_in {ns : List Nod} {ls : List Lnk} (h : netOk ns ls = true) : inG ns.length (edgN ns ls) := by
  intro e he
  simp only [edgN, List.mem_map] at he
  obtain ⟨l, hl, rfl⟩ := he
  obtain ⟨i, hi, rfl⟩ := List.mem_iff_getElem.1 hl
  obtain ⟨_, _, h1, h2⟩ := netOk_lnk h hi
  exact ⟨idxD_lt h1, idxD_lt h2⟩
variable {C : CC} (hC : Closed prog C)
include hC
theorem nEdges_c (b1 b2 : Bool) (ns : List Nod) (ls : List Lnk) (hv : netOk ns ls = true) : C 499 [.agg [slx b1 (ns.map nodC), slx b2 (ls.map lnkC)]] (.sl ((edgN ns ls).map edK)) [] := by
  obtain ⟨hl1, hl2⟩ := netOk_len hv
  refine start hC (nf := N499_network_edges) rfl rfl ?_
  simp [N499_network_edges]
  refine loop_of Nat (fun j => [(1, .ptr [slx b1 (ns.map nodC), slx b2 (ls.map lnkC)]), (3, .ref (.r 10048) 0 j), (10048, .blk 2 (edT (edgN ns ls) j)), (7, slx b2 (ls.map lnkC)), (8, .int .i64 ls.length), (9, .int .i64 j)]) (fun j => j ≤ ls.length) (fun j => ls.length - j) 0 (by simp) (by simp) ?_
  rintro j hj
  simp
  refine brB_of (fun h => ?_) (fun h => ?_) <;> simp [h] <;> simp at h
  · have hw : IntKind.wrap .i64 ((j : Int) + 1) = ((j + 1 : Nat) : Int) := wrap_i64 (by omega) (by omega)
    obtain ⟨_, _, g1, g2⟩ := netOk_lnk hv h
    have k1 := node_c hC b1 b2 ns ls ls[j].src (by omega)
    have k2 := node_c hC b1 b2 ns ls ls[j].dst (by omega)
    have hjl : j < (edgN ns ls).length := by rw [edgN_len]; exact h
    have el := edT_len (es := edgN ns ls) (j := j) (by omega)
    simp [h, lnkC, el]
    refine callW_of k1 (.inl rfl) ?_
    simp
    refine callW_of k2 (.inl rfl) ?_
    simp [el]
    refine ⟨by omega, indW_of (by decide +kernel), j + 1, by omega, by omega, rfl, ?_, hw⟩
    have e2 : (edT (edgN ns ls) j).take j = edT (edgN ns ls) j := List.take_of_length_le (by omega)
    rw [e2, edT_succ hjl]
    congr 2
    simp only [edgN, List.getElem_map, edK, knD]
    rw [Int.toNat_of_nonneg g1, Int.toNat_of_nonneg g2]
  · have ej : j = ls.length := by omega
    subst ej
    have e0 := edT_end (edgN ns ls)
    have el := edT_len (es := edgN ns ls) (j := ls.length) (by rw [edgN_len]; exact Nat.le_refl _)
    rw [edgN_len] at e0
    simp [edT_V, el]
    rw [← e0, List.take_of_length_le (by omega)]
theorem NEdges_c (b1 b2 : Bool) (ns : List Nod) (ls : List Lnk) (hcv : ∀ l ∈ ls, l.curve.length < 2 ^ 62) : C 471 [.agg [slx b1 (ns.map nodC), slx b2 (ls.map lnkC)]] (.tup (if netOk ns ls then [.sl ((edgN ns ls).map edK), .int .i64 0] else [.nils, .int .i64 1])) [] := by
  refine start hC (nf := N471_network_Edges) rfl rfl ?_
  simp [N471_network_Edges]
  refine callW_of (netOk_c hC b1 b2 ns ls hcv) (.inl rfl) ?_
  cases hv : netOk ns ls
  · simp
  · simp
    refine callW_of (nEdges_c hC b1 b2 ns ls hv) (.inr rfl) ?_
    simp
theorem hasLnk_c {b : Bool} {xs : List Lnk} {g : Nat} {cs : List D} (p : Lnk → Bool) (hs : xs.length < 2 ^ 62) (hp : ∀ x ∈ xs, C g (.agg (lnkC x) :: cs) (.bool (p x)) []) : C 455 [slx b (xs.map fun x => lnkC x), .fn g cs] (.bool (xs.any p)) [] := by
  refine start hC (nf := N455_slices_ContainsFunc__api_Link_api_Link) rfl rfl ?_
  simp [N455_slices_ContainsFunc__api_Link_api_Link]
  refine callW_of (idxLnk_c hC p hs hp) (.inl rfl) ?_
  simp [idxD_any]
theorem hasNod_c {b : Bool} {xs : List Nod} {g : Nat} {cs : List D} (p : Nod → Bool) (hs : xs.length < 2 ^ 62) (hp : ∀ x ∈ xs, C g (.agg (nodC x) :: cs) (.bool (p x)) []) : C 453 [slx b (xs.map fun x => nodC x), .fn g cs] (.bool (xs.any p)) [] := by
  refine start hC (nf := N453_slices_ContainsFunc__api_Node_api_Node) rfl rfl ?_
  simp [N453_slices_ContainsFunc__api_Node_api_Node]
  refine callW_of (idxNod_c hC p hs hp) (.inl rfl) ?_
  simp [idxD_any]
def treeN (ns : List Nod) (ls : List Lnk) : Bool := netOk ns ls && ls.all (fun l => decide (l.kind = 1)) && treeF ns.length (edgN ns ls)
end Go.Gv

set_option linter.unusedSimpArgs false
namespace Go.Gv
abbrev Sp := Int × Int
def fitS (n : Int) : Bool := decide (-72057594037927936 ≤ n) && decide (n ≤ 72057594037927936)
def spOk (s : Sp) : Bool := decide (s.1 ≤ s.2) && fitS s.1 && fitS s.2
def spRg (s : Sp) : Bool := decide (s.1 < 0) || decide (1099511627776 < s.2)
def spsE (l : List Sp) (count : Int) : Int := if l.any (fun s => !spOk s) then 1 else if (l.length : Int) = count then (if l.any spRg then 2 else 0) else 3
def spAq (a b : Sp) : Sp := (IntKind.wrap .i64 (a.1 + b.1), IntKind.wrap .i64 (a.2 + b.2))
abbrev FSt := (Nat → Sp) × (Nat → Sp)
/-- Node i is taken: edge k is looked at. -/
def fStep (i k : Nat) (e : Edg) (s : FSt) : FSt := if e.1 = i then (fun v => if v = e.2 then spAq (s.1 e.2) (s.1 i) else s.1 v, fun q => if q = k then s.1 i else s.2 q) else s
def flI (es : List Edg) (i : Nat) (s : FSt) : Nat → FSt
  | 0 => s
  | k + 1 => fStep i k es[k]! (flI es i s k)
def flO (es : List Edg) (ord : List Nat) (s : FSt) : Nat → FSt
  | 0 => s
  | m + 1 => flI es ord[m]! (flO es ord s m) es.length
def flS (l : List Sp) : FSt := (fun v => l[v]!, fun _ => (0, 0))
def flowsF (n : Nat) (es : List Edg) (l : List Sp) : List Sp := (List.range es.length).map (flO es (ordF n es) (flS l) (ordF n es).length).2
def bigF (l : List Sp) : Bool := l.any fun s => decide (1099511627776 < s.2)
def flowsE (n : Nat) (es : List Edg) (l : List Sp) : Int := if bigF (flowsF n es l) then 5 else 0
def flowsV (n : Nat) (es : List Edg) (l : List Sp) : D := if bigF (flowsF n es l) then .nils else .sl ((flowsF n es l).map knD)
def spR (n : Nat) (f : Nat → Sp) : List (List D) := (List.range n).map fun v => knD (f v)
variable {C : CC} (hC : Closed prog C)
include hC
def FlowsE (ns : List Nod) (ls : List Lnk) (l : List Sp) : Int := if treeN ns ls then (if spsE l ns.length = 0 then flowsE ns.length (edgN ns ls) l else spsE l ns.length) else 1
def FlowsV (ns : List Nod) (ls : List Lnk) (l : List Sp) : D := if FlowsE ns ls l = 0 then .sl ((flowsF ns.length (edgN ns ls) l).map knD) else .nils
end Go.Gv

set_option linter.unusedSimpArgs false
namespace Go.Gv
def wS (s : Sp) : Sp := (IntKind.wrap .i64 s.1, IntKind.wrap .i64 s.2)
def adS (a b : Sp) : Sp := (a.1 + b.1, a.2 + b.2)
/-- The sum of what the edges carry that P takes, of the first k ones. -/
def sumT (P : Nat → Bool) (o : Nat → Sp) : Nat → Sp
  | 0 => (0, 0)
  | k + 1 => if P k then adS (sumT P o k) (o k) else sumT P o k
/-- Each edge is the only one from its node. -/
theorem src_uniq {es : List Edg} (h : (es.map (·.1)).Nodup) {k k' : Nat} (hk : k < es.length) (hk' : k' < es.length) (e : es[k].1 = es[k'].1) : k = k' := by
  have h1 : k < (es.map (·.1)).length := by simpa using hk
  have h2 : k' < (es.map (·.1)).length := by simpa using hk'
  have := (List.getElem_inj (xs := es.map (·.1)) (i := k) (j := k') (h₀ := h1) (h₁ := h2) h).1 (by simpa using e)
  exact this
def inT (es : List Edg) (v : Nat) (done : List Nat) (k : Nat) : Bool := decide (es[k]!.2 = v) && done.contains es[k]!.1
def balS (es : List Edg) (fl : List Sp) (s0 : Sp) (v : Nat) : Nat → Sp
  | 0 => s0
  | k + 1 => if es[k]!.2 = v then spAq (balS es fl s0 v k) fl[k]! else balS es fl s0 v k
end Go.Gv

set_option linter.unusedSimpArgs false
namespace Go.Gv
/-! ### sums -/
def sumFq (f : Nat → Int) : Nat → Int
  | 0 => 0
  | k + 1 => sumFq f k + f k
/-! ### the way of the water -/
def stp (es : List Edg) (v : Nat) : Option Nat := (es.find? fun e => e.1 == v).map (·.2)
/-- Where water from v is after m edges. -/
def wat (es : List Edg) : Nat → Nat → Option Nat
  | 0, v => some v
  | m + 1, v => (wat es m v).bind (stp es)
/-- Water from v comes to x. -/
def upB (n : Nat) (es : List Edg) (v x : Nat) : Bool := (List.range n).any fun m => wat es m v == some x
theorem stp_of {es : List Edg} (hnd : (es.map (·.1)).Nodup) {y z : Nat} (h : (y, z) ∈ es) : stp es y = some z := by
  unfold stp
  cases e : es.find? (fun e => e.1 == y) with
  | none =>
    have := List.find?_eq_none.1 e _ h
    simp at this
  | some p =>
    have h1 := List.find?_some e
    have h2 := List.mem_of_find?_eq_some e
    obtain ⟨a, b⟩ := p
    simp at h1
    subst h1
    obtain ⟨k, hk, ek⟩ := List.getElem_of_mem h
    obtain ⟨j, hj, ej⟩ := List.getElem_of_mem h2
    have := src_uniq hnd hk hj (by rw [ek, ej])
    subst this
    rw [ek] at ej
    cases ej
    rfl
def watW (n : Nat) (es : List Edg) (g : Nat → Int) (m x : Nat) : Int := sumFq (fun v => if wat es m v = some x then g v else 0) n
/-- The sum over the nodes from which water comes to x. -/
def upS (n : Nat) (es : List Edg) (g : Nat → Int) (x : Nat) : Int := sumFq (fun v => if upB n es v x = true then g v else 0) n
end Go.Gv

set_option linter.unusedSimpArgs false
namespace Go.Gv
inductive Pth (es : List Edg) : Nat → Nat → Prop
  | refl (v : Nat) : Pth es v v
  | step {u v w : Nat} : (u, v) ∈ es → Pth es v w → Pth es u w
theorem Pth.snoc {es : List Edg} {u v w : Nat} (h : Pth es u v) (e : (v, w) ∈ es) : Pth es u w := by
  induction h with
  | refl v => exact .step e (.refl _)
  | step e' _ ih => exact .step e' (ih e)
theorem Pth.trans {es : List Edg} {u v w : Nat} (h : Pth es u v) (h2 : Pth es v w) : Pth es u w := by
  induction h with
  | refl v => exact h2
  | step e _ ih => exact .step e (ih h2)
def RR (es : List Edg) (fr : List Nat) (v : Nat) : Prop := ∃ s ∈ fr, Pth es s v
noncomputable def rB (es : List Edg) (fr : List Nat) (v : Nat) : Bool := @decide (RR es fr v) (Classical.propDecidable _)
theorem rB_iff {es : List Edg} {fr : List Nat} {v : Nat} : rB es fr v = true ↔ RR es fr v := by
  unfold rB
  exact @decide_eq_true_iff _ (Classical.propDecidable _)
/-- A closed set of what is reached is all that is reached. -/
theorem rB_closed {es : List Edg} {fr : List Nat} {out : Nat → Bool} (h1 : ∀ v, out v = true → RR es fr v) (h2 : ∀ s ∈ fr, out s = true) (h3 : ∀ u w, (u, w) ∈ es → out u = true → out w = true) (v : Nat) : out v = rB es fr v := by
  have key : ∀ {u w : Nat}, Pth es u w → out u = true → out w = true := fun {u w} h => by
    induction h with
    | refl v => exact _root_.id
    | step e _ ih => exact fun hu => ih (h3 _ _ e hu)
  rw [Bool.eq_iff_iff, rB_iff]
  refine ⟨h1 v, fun ⟨s, hs, hp⟩ => key hp (h2 s hs)⟩
def boolA (n : Nat) (f : Nat → Bool) : List (List D) := (List.range n).map fun v => [.bool (f v)]
theorem boolA_len (n : Nat) (f : Nat → Bool) : (boolA n f).length = n := by simp [boolA]
theorem boolA_get {n v : Nat} (f : Nat → Bool) (h : v < n) : (boolA n f)[v]? = some [.bool (f v)] := by simp [boolA, h]
theorem boolA_set {n v : Nat} (f : Nat → Bool) (x : Bool) : (boolA n f).set v [.bool x] = boolA n fun u => if u = v then x else f u := by
  unfold boolA
  rw [set_rm]
  apply List.map_congr_left
  intro u _
  by_cases h : u = v <;> simp [h]
theorem boolA_congr {n : Nat} {f g : Nat → Bool} (h : ∀ v, v < n → f v = g v) : boolA n f = boolA n g := by
  unfold boolA
  apply List.map_congr_left
  intro v hv
  rw [h v (by simpa using hv)]
theorem boolA_V (n : Nat) (f : Nat → Bool) : (boolA n f).map (fun e => e.map cellV) = boolA n f := by
  unfold boolA
  rw [List.map_map]
  apply List.map_congr_left
  intro v _
  simp [cellV]
/-! ### a weight that falls -/
def wtS (f : Nat → Nat) : Nat → Nat
  | 0 => 0
  | k + 1 => wtS f k + f k
theorem wtS_congr {f g : Nat → Nat} : ∀ {K : Nat}, (∀ k, k < K → f k = g k) → wtS f K = wtS g K
  | 0, _ => rfl
  | K + 1, h => by unfold wtS; rw [wtS_congr (K := K) (fun k hk => h k (by omega)), h K (by omega)]
theorem wtS_upd {f g : Nat → Nat} {i : Nat} : ∀ {K : Nat}, i < K → (∀ k, k ≠ i → g k = f k) → g i = 0 → wtS f K = wtS g K + f i
  | 0, h, _, _ => by omega
  | K + 1, h, h1, h2 => by
    unfold wtS
    by_cases e : K = i
    · subst e
      rw [wtS_congr (f := g) (g := f) (fun k hk => h1 k (by omega)), h2]
      omega
    · rw [wtS_upd (f := f) (g := g) (K := K) (by omega) h1 h2, h1 K e]
      omega
theorem wtS_le {f : Nat → Nat} {B : Nat} : ∀ {K : Nat}, (∀ k, k < K → f k ≤ B) → wtS f K ≤ K * B
  | 0, _ => by simp [wtS]
  | K + 1, h => by
    have := wtS_le (K := K) (fun k hk => h k (by omega))
    have := h K (by omega)
    unfold wtS
    rw [Nat.add_mul]
    omega
end Go.Gv

set_option linter.unusedSimpArgs false
namespace Go.Gv
variable {C : CC} (hC : Closed prog C)
include hC
theorem Clone_c (b : Bool) (xs : List Int) (h2 : xs.length < 2 ^ 40) : C 42 [slx b (xs.map fun n => [.int .i64 n])] .any [.own 1 (xs.map fun n => [.int .i64 n])] := by
  cases xs with
  | nil =>
    cases b with
    | true =>
      show C 42 [.nils] .any [.own 1 []]
      refine startF hC (nf := N42_slices_Clone__int_int) rfl rfl ?_
      simp [N42_slices_Clone__int_int]
    | false =>
      show C 42 [.sl []] .any [.own 1 []]
      refine startF hC (nf := N42_slices_Clone__int_int) rfl rfl ?_
      simp [N42_slices_Clone__int_int]
  | cons x xs =>
    have e : slx b ((x :: xs).map fun n => [D.int .i64 n]) = .sl ((x :: xs).map fun n => [D.int .i64 n]) := by cases b <;> rfl
    rw [e]
    obtain ⟨l, hl⟩ : ∃ l, l = x :: xs := ⟨_, rfl⟩
    rw [← hl] at h2 ⊢
    have h : 0 < l.length := by rw [hl]; simp
    refine startF hC (nf := N42_slices_Clone__int_int) rfl rfl ?_
    simp [N42_slices_Clone__int_int]
    refine ⟨fun _ => ?_, fun h0 => ?_⟩
    · have : l.length < 1099511627776 := h2
      omega
    · subst h0
      simp at h
end Go.Gv

set_option linter.unusedSimpArgs false
namespace Go.Gv
/-- What is left to do: nodes that are not out, and their edges. -/
def lftW (n : Nat) (es : List Edg) (out : Nat → Bool) : Nat := wtS (fun v => if out v = true then 0 else 1 + (nxt n es v).length) n
theorem lftW_step {n : Nat} {es : List Edg} {out : Nat → Bool} {i : Nat} (hi : i < n) (ho : out i = false) : lftW n es out = lftW n es (fun u => if u = i then true else out u) + (1 + (nxt n es i).length) := by
  unfold lftW
  rw [wtS_upd (f := fun v => if out v = true then 0 else 1 + (nxt n es v).length) (g := fun v => if (if v = i then true else out v) = true then 0 else 1 + (nxt n es v).length) hi (fun k hk => by simp only [if_neg hk]) (by simp)]
  simp [ho]
theorem lftW_le (n : Nat) (es : List Edg) (out : Nat → Bool) : lftW n es out ≤ n * (1 + n) := by
  refine wtS_le fun k _ => ?_
  have := nxt_len n es k
  split <;> omega
theorem intL_map (l : List Nat) : intL l = (l.map fun k : Nat => (k : Int)).map fun n => [.int .i64 n] := by simp [intL]
variable {C : CC} (hC : Closed prog C)
include hC
set_option maxHeartbeats 2000000 in
theorem reach_c {b : Bool} {n : Nat} {es : List Edg} (hn : n ≤ 300) (hg : inG n es) (fr : List Nat) (hf : ∀ s ∈ fr, s < n) (hl : fr.length ≤ 1000) : C 521 [nxtD n es, slx b (intL fr)] (.sl (boolA n (rB es fr))) [] := by
  have k1 := Clone_c hC b (fr.map fun k : Nat => (k : Int)) (by simp; omega)
  rw [← intL_map] at k1
  obtain ⟨R, hR, hRg⟩ : ∃ R, nxtD n es = .sl R ∧ ∀ v, v < n → R[v]? = some [ndD (nxt n es v)] := ⟨_, rfl, fun v hv => by simp [hv]⟩
  have hRl : R.length = n := by
    have := congrArg (fun d => match d with | .sl r => r.length | _ => 0) hR
    simpa [nxtD] using this.symm
  rw [hR]
  refine start hC (nf := N521_digraph_reach) rfl rfl ?_
  simp [N521_digraph_reach, hRl]
  refine ⟨by omega, ?_⟩
  refine callFW_of k1 ?_
  simp [intL_len]
  refine loop_of ((Nat → Bool) × List Nat × List (List D)) (fun s => [(0, .sl R), (5, .ref (.r 10080) 0 n), (10080, .blk 1 (boolA n s.1)), (6, .ref (.r 10096) 0 s.2.1.length), (10096, .blk 1 s.2.2)])
    (fun s => s.2.2.take s.2.1.length = intL s.2.1 ∧ (∀ v, s.1 v = true → RR es fr v) ∧ (∀ v ∈ s.2.1, v < n ∧ RR es fr v) ∧ (∀ v ∈ fr, s.1 v = true ∨ v ∈ s.2.1) ∧ (∀ u w, (u, w) ∈ es → s.1 u = true → s.1 w = true ∨ w ∈ s.2.1) ∧ s.2.1.length + lftW n es s.1 ≤ 1000 + n * (1 + n))
    (fun s => s.2.1.length + lftW n es s.1) ((fun _ => false), fr, intL fr) ⟨by simp [← intL_len fr], by simp, fun v hv => ⟨hf v hv, v, hv, .refl v⟩, fun v hv => .inr hv, by simp, by have := lftW_le n es (fun _ => false); simp only; omega⟩ (by simp [boolA, rep_map]) ?_
  rintro ⟨out, st, rows⟩ ⟨i1, i2, i3, i4, i5, i6⟩
  simp only at i1 i2 i3 i4 i5 i6
  simp
  refine brB_of (fun h => ?_) (fun h => ?_) <;> simp at h
  · obtain ⟨st', i, rfl⟩ : ∃ st' i, st = st' ++ [i] := by
      rcases List.eq_nil_or_concat st with e | ⟨l, x, e⟩
      · rw [e] at h; simp at h
      · exact ⟨l, x, by simpa using e⟩
    obtain ⟨m, hm⟩ : ∃ m, m = st'.length := ⟨_, rfl⟩
    have hlen : (st' ++ [i]).length = m + 1 := by simp [hm]
    rw [hlen] at i1 i6
    have hrl : m + 1 ≤ rows.length := by
      have := congrArg List.length i1
      rw [List.length_take, intL_len, hlen] at this
      omega
    have hg1 : rows[m]? = some [.int .i64 (i : Int)] := by
      have := congrArg (fun l => l[m]?) i1
      simp only [List.getElem?_take, if_pos (Nat.lt_succ_self m)] at this
      rw [this]
      simp [intL, hm]
    have hg2 : rows.take m = intL st' := by
      have := congrArg (List.take m) i1
      rw [List.take_take, Nat.min_eq_left (by omega)] at this
      rw [this]
      simp [intL, hm, List.take_left' ]
    have hi := i3 i (by simp)
    have h300 : n * (1 + n) ≤ 300 * 301 := Nat.mul_le_mul hn (by omega)
    have hwm : IntKind.wrap .i64 (m : Int) = (m : Int) := wrap_i64 rfl (by omega)
    simp only [hlen]
    simp [hwm, rowW_some hg1, hg1]
    refine ⟨hi.1, ?_⟩
    simp [rowW_some (boolA_get out hi.1), boolA_get out hi.1]
    refine brB_of (fun ho => ?_) (fun ho => ?_) <;> simp at ho
    · have hstep := lftW_step (es := es) hi.1 ho
      have hnl := nxt_len n es i
      simp [hi.1, boolA_len, rowW_some (boolA_get out hi.1), boolA_get out hi.1, idxW_some (hRg i hi.1), hRg i hi.1, hRl, ndD]
      have hb1 : 1 ≤ ((boolA n out)[i]'(by rw [boolA_len]; exact hi.1)).length := by simp [boolA]
      have hfl : ∀ e ∈ intL (nxt n es i), e.length = 1 ∧ ∀ c ∈ e, isC1 c = true := fun e he => by
        obtain ⟨k, _, rfl⟩ := List.mem_map.1 he
        simp [isC1]
      refine ⟨hb1, hfl, by omega, by rw [intL_len]; omega, fun u => if u = i then true else out u, st' ++ nxt n es i, rows.take m ++ intL (nxt n es i), ⟨?_, fun v hv => ?_, fun v hv => ?_, fun v hv => ?_, fun u w e hu => ?_, ?_⟩, ?_, ?_, ?_, ?_⟩
      · rw [hg2, List.take_of_length_le (by simp [intL])]; simp [intL]
      · by_cases e : v = i
        · rw [e]; exact hi.2
        · simp only [if_neg e] at hv; exact i2 v hv
      · rcases List.mem_append.1 hv with h1 | h1
        · exact i3 v (by simp [h1])
        · obtain ⟨h2, h3⟩ := mem_nxt.1 h1
          obtain ⟨s0, hs0, hp⟩ := hi.2
          exact ⟨h2, s0, hs0, hp.snoc h3⟩
      · rcases i4 v hv with h1 | h1
        · left; simp only; split <;> simp [h1]
        · rcases List.mem_append.1 h1 with h2 | h2
          · exact .inr (by simp [h2])
          · rw [List.mem_singleton.1 h2]; exact .inl (by simp)
      · by_cases e2 : u = i
        · subst e2
          exact .inr (List.mem_append.2 (.inr (mem_nxt.2 ⟨(hg _ e).2, e⟩)))
        · simp only [if_neg e2] at hu
          rcases i5 u w e hu with h1 | h1
          · left; simp only; split <;> simp [h1]
          · rcases List.mem_append.1 h1 with h2 | h2
            · exact .inr (by simp [h2])
            · rw [List.mem_singleton.1 h2]; exact .inl (by simp)
      · rw [List.length_append]; omega
      · rw [List.length_append]; omega
      · have e9 : ((boolA n out)[i]'(by rw [boolA_len]; exact hi.1)).tail = [] := by simp [boolA]
        rw [e9]
        exact boolA_set out true
      · rw [intL_len, List.length_append, hm]
      · trivial
    · simp
      refine ⟨out, st', rows, ⟨by rw [← hm]; exact hg2, i2, fun v hv => i3 v (by simp [hv]), fun v hv => ?_, fun u w e hu => ?_, by omega⟩, by omega, rfl, by omega, rfl⟩
      · rcases i4 v hv with h1 | h1
        · exact .inl h1
        · rcases List.mem_append.1 h1 with h2 | h2
          · exact .inr h2
          · rw [List.mem_singleton.1 h2]; exact .inl ho
      · rcases i5 u w e hu with h1 | h1
        · exact .inl h1
        · rcases List.mem_append.1 h1 with h2 | h2
          · exact .inr h2
          · rw [List.mem_singleton.1 h2]; exact .inl ho
  · have hst : st = [] := by
      cases st with
      | nil => rfl
      | cons x l => simp at h
    subst hst
    simp at i4 i5
    have hcl := rB_closed i2 (fun s hs => i4 s hs) (fun u w e hu => i5 u w e hu)
    simp [h]
    rw [boolA_V, List.take_of_length_le (by rw [boolA_len]; exact Nat.le_refl _)]
    exact ⟨by simp [boolA_len], boolA_congr fun v _ => hcl v⟩
end Go.Gv

set_option linter.unusedSimpArgs false
namespace Go.Gv
variable {C : CC} (hC : Closed prog C)
include hC
end Go.Gv

set_option linter.unusedSimpArgs false
namespace Go.Gv
def curveR (l : List (Int × Int)) : Bool := tableValid l && decide (0 ≤ l[0]!.1) && decide ((lastK l).1 ≤ 4194304) && decide (0 ≤ l[0]!.2) && decide ((lastK l).2 ≤ 1099511627776)
def kindR (l : Lnk) : Bool :=
  if l.kind = 1 then lowHigh l.len 1 16777216 && isName l.sect && decide (l.width = 0) && decide (l.height = 0) && decide (l.curve.length = 0)
  else if l.kind = 2 then decide (l.len = 0) && decide (l.down = 0) && decide (l.sect = []) && lowHigh l.width 1 1048576 && decide (l.height = 0) && decide (l.curve.length = 0)
  else if l.kind = 3 then decide (l.len = 0) && decide (l.down = 0) && decide (l.sect = []) && lowHigh l.width 1 32768 && lowHigh l.height 1 32768 && decide (l.curve.length = 0)
  else if l.kind = 4 then decide (l.len = 0) && decide (l.down < l.up) && decide (l.sect = []) && decide (l.width = 0) && decide (l.height = 0) && curveR l.curve
  else false
def linkR (l : Lnk) : Bool := isName l.name && isName l.src && isName l.dst && !decide (l.src = l.dst) && lvlOk l.up && lvlOk l.down && kindR l
variable {C : CC} (hC : Closed prog C)
include hC
end Go.Gv

set_option linter.unusedSimpArgs false
namespace Go.Gv
open Go.Lib

end Go.Gv

set_option linter.unusedSimpArgs false
namespace Go.Gv
open Go.Lib

/-- A number that is not negative, in two parts of 64 bits. -/
def numD (p : Nat) (neg : Bool) : D := .agg [.int .u64 ((p / 18446744073709551616 : Nat) : Int), .int .u64 ((p % 18446744073709551616 : Nat) : Int), .bool neg]
/-- A wide integer that is not negative. -/
def wiD (p : Nat) : D := .agg [.int .i64 ((p / 1152921504606846976 : Nat) : Int), .int .i64 ((p % 1152921504606846976 : Nat) : Int)]

variable {C : CC} (hC : Closed prog C)
include hC
end Go.Gv

set_option linter.unusedSimpArgs false
namespace Go.Gv
open Go.Lib

variable {C : CC} (hC : Closed prog C)
include hC
end Go.Gv

set_option linter.unusedSimpArgs false
namespace Go.Gv
variable {C : CC} (hC : Closed prog C)
include hC
end Go.Gv

set_option linter.unusedSimpArgs false
namespace Go.Gv
/-- The number of knots before a number. -/
def posK (t : List (Int × Int)) (x : Int) : Nat := t.findIdx fun k => decide (x ≤ k.1)
def atK (t : List (Int × Int)) (x : Int) : Bool := decide (posK t x < t.length) && decide (t[posK t x]!.1 = x)
/-- The value between two knots: the part below it, the rest, and the denominator. -/
def betK (a b : Int × Int) (x : Int) : Int × Int × Int := (a.2 + (b.2 - a.2) * (x - a.1) / (b.1 - a.1), (b.2 - a.2) * (x - a.1) % (b.1 - a.1), b.1 - a.1)
def pieceF (t : List (Int × Int)) (x : Int) : Int × Int × Int :=
  if atK t x || decide (posK t x = 0) then (t[posK t x]!.2, 0, 1)
  else if posK t x = t.length then (t[posK t x - 1]!.2, 0, 1)
  else betK t[posK t x - 1]! t[posK t x]! x
variable {C : CC} (hC : Closed prog C)
include hC
end Go.Gv

set_option linter.unusedSimpArgs false
namespace Go.Gv

variable {C : CC} (hC : Closed prog C)
include hC
end Go.Gv

set_option linter.unusedSimpArgs false
namespace Go.Gv
/-- A search by halves: the fuel, and the two ends. -/
def bis (p : Nat → Bool) : Nat → Nat → Nat → Nat
  | 0, lo, _ => lo
  | f + 1, lo, hi => if lo < hi then (if p ((lo + hi) / 2) then bis p f lo ((lo + hi) / 2) else bis p f ((lo + hi) / 2 + 1) hi) else lo
def carF (s : Sec) (depth fall len : Int) : Nat := rootN ((pieceF s.conv depth).1.toNat * (pieceF s.conv depth).1.toNat * fall.toNat / len.toNat)
def enoughD (s : Sec) (flow fall len : Int) (m : Nat) : Bool := decide (flow ≤ (carF s m fall len : Int))
def leastD (s : Sec) (flow fall len : Int) : Nat := bis (enoughD s flow fall len) 40 0 (s.height.toNat + 1)
def depthF (s : Sec) (flow fall len : Int) : Int × Int :=
  if secValid s then (if 0 ≤ flow ∧ flow ≤ 1099511627776 ∧ slopeOk fall len = true then (if s.height.toNat < leastD s flow fall len then (0, 28) else (leastD s flow fall len, 0)) else (0, 2)) else (0, 1)
variable {C : CC} (hC : Closed prog C)
include hC
end Go.Gv

set_option linter.unusedSimpArgs false
namespace Go.Gv
/-! ### links -/
end Go.Gv

set_option linter.unusedSimpArgs false
namespace Go.Gv
variable {C : CC} (hC : Closed prog C)
include hC
end Go.Gv

set_option linter.unusedSimpArgs false
namespace Go.Gv
variable {C : CC} (hC : Closed prog C)
include hC
end Go.Gv

set_option linter.unusedSimpArgs false
namespace Go.Gv
def srcsA (n : Nat) (out : List Nat) : List (List D) := (List.range n).map fun v => [.bool (decide (v ∈ out))]
/-- The least ready one among the first v. -/
def lowR (es : List Edg) (out : List Nat) : Nat → Int
  | 0 => -1
  | v + 1 => if lowR es out v < 0 then (if !out.contains v && prOk es out v then (v : Int) else -1) else lowR es out v
/-- All predecessors among the first j edges are there. -/
def prT (es : List Edg) (out : List Nat) (v j : Nat) : Bool := prOk (es.take j) out v
variable {C : CC} (hC : Closed prog C)
include hC
end Go.Gv

set_option linter.unusedSimpArgs false
namespace Go.Gv
def rOrdV (n : Nat) (es : List Edg) : D := if (ordF n es).length = n then ndD (ordF n es) else .nils
variable {C : CC} (hC : Closed prog C)
include hC
end Go.Gv

set_option linter.unusedSimpArgs false
namespace Go.Gv

def catValid (l : List Sec) : Bool := decide (l.length ≤ 40) && l.all secValid && decide ((l.map (·.name)).Nodup)
def namesK (l : List Sec) : List D := ((l.map (·.name)).reverse).map D.str

theorem mpGet_set : ∀ (xs : List (List UInt8)) (n : Nat), n = xs.length → ∀ s, (mpGet (xs.map D.str) (List.replicate n (.bool true)) (.str s)).getD (.bool false) = .bool (decide (s ∈ xs))
  | [], n, h, s => by simp [mpGet]
  | x :: xs, n, h, s => by
    obtain ⟨m, rfl⟩ : ∃ m, n = m + 1 := ⟨n - 1, by simp at h; omega⟩
    have ih := mpGet_set xs m (by simpa using h) s
    simp only [List.map_cons, List.replicate_succ, mpGet, eqD, eqD1, decide_eq_true_eq]
    by_cases e : s = x
    · subst e; simp
    · rw [if_neg e, ih]; simp [e]

variable {C : CC} (hC : Closed prog C)
include hC
end Go.Gv

set_option linter.unusedSimpArgs false
namespace Go.Gv
variable {C : CC} (hC : Closed prog C)
include hC
end Go.Gv

set_option linter.unusedSimpArgs false
namespace Go.Gv

structure Job where
  below : SlI
  lengths : SlI
  flows : SlI
  falls : SlI
  room : SlI
  secN : Bool
  secs : List Sec
  deriving Inhabited
def jobC (j : Job) : List D := [slI j.below, slI j.lengths, slI j.flows, slI j.falls, slI j.room, slx j.secN (j.secs.map secC)]
def manySec (s : Sec) : Bool := decide (20 < s.area.length) || decide (20 < s.conv.length) || decide (60 < s.name.length)
def manyF (l : List Sec) : Bool := decide (8 < l.length) || l.any manySec
def largeF (j : Job) : Bool := decide (12 < j.below.l.length) || decide (12 < j.lengths.l.length) || decide (12 < j.flows.l.length) || decide (12 < j.falls.l.length) || decide (12 < j.room.l.length) || manyF j.secs
def inRq (n a b : Int) : Bool := a ≤ n && n ≤ b
def pipeOk (j : Job) (i : Nat) : Bool := (j.below.l[i]! == -1 || (decide ((i : Int) < j.below.l[i]!) && decide (j.below.l[i]! < j.below.l.length))) && inRq j.lengths.l[i]! 1 16777216 && inRq j.flows.l[i]! 0 1099511627776 && inRq j.falls.l[i]! 0 4194304 && inRq j.room.l[i]! 0 4194304
def jobValid (j : Job) : Bool := decide (j.below.l.length ≤ 400) && decide (j.lengths.l.length = j.below.l.length) && decide (j.flows.l.length = j.below.l.length) && decide (j.falls.l.length = j.below.l.length) && decide (j.room.l.length = j.below.l.length) && decide (0 < j.secs.length) && catValid j.secs && (List.range j.below.l.length).all (pipeOk j)

@[simp] theorem slI_slx {x : SlI} : slI x = slx x.n (x.l.map fun n => [.int .i64 n]) := _root_.id rfl

variable {C : CC} (hC : Closed prog C)
include hC
end Go.Gv

set_option linter.unusedSimpArgs false
namespace Go.Gv

def nameIs (nm : List UInt8) (s : Sec) : Bool := s.name == nm
/-- A catalogue is valid if each section is, and is the first one with its name. -/
theorem catValid_iff (l : List Sec) : catValid l = true ↔ l.length ≤ 40 ∧ (∀ (i : Nat) (h : i < l.length), secValid l[i] = true ∧ idxD (nameIs l[i].name) l = i) := by
  simp only [catValid, Bool.and_eq_true, decide_eq_true_eq, List.all_eq_true]
  constructor
  · rintro ⟨⟨h1, h2⟩, h3⟩
    refine ⟨h1, fun i h => ⟨h2 _ (List.getElem_mem h), ?_⟩⟩
    refine idxD_step (fun k hk hki => ?_) h (by simp [nameIs])
    rw [nameIs, beq_eq_false_iff_ne]
    intro e
    exact List.pairwise_iff_getElem.1 h3 k i (by simpa using hk) (by simpa using h) hki (by simpa using e)
  · rintro ⟨h1, h2⟩
    refine ⟨⟨h1, fun x hx => ?_⟩, ?_⟩
    · obtain ⟨i, h, rfl⟩ := List.getElem_of_mem hx
      exact (h2 i h).1
    · refine List.pairwise_iff_getElem.2 fun a b ha hb hab e => ?_
      simp only [List.length_map] at ha hb
      simp only [List.getElem_map] at e
      have h3 := (h2 b hb).2
      have h4 : ∃ k, k ≤ a ∧ idxD (nameIs l[b].name) l = (k : Int) := by
        unfold idxD
        cases hf : l.findIdx? (nameIs l[b].name) with
        | none =>
          rw [List.findIdx?_eq_none_iff] at hf
          have := hf l[a] (List.getElem_mem _)
          simp [nameIs, e] at this
        | some k =>
          refine ⟨k, ?_, rfl⟩
          rw [List.findIdx?_eq_some_iff_getElem] at hf
          obtain ⟨q1, q2, q3⟩ := hf
          rcases Nat.lt_or_ge a k with hak | hak
          · exact absurd (by simp [nameIs, e]) (q3 a hak)
          · exact hak
      obtain ⟨k, h5, h6⟩ := h4
      omega

variable {C : CC} (hC : Closed prog C)
include hC
end Go.Gv

set_option linter.unusedSimpArgs false
namespace Go.Gv
open Go.Lib

variable {C : CC} (hC : Closed prog C)
include hC
end Go.Gv

set_option linter.unusedSimpArgs false
namespace Go.Gv

/-- A quotient, bit by bit: a is what is left of x, shifted. -/
def DvS (x b i a q r : Nat) : Prop := i ≤ 128 ∧ r < b ∧ ∃ c, a = c * 2 ^ i ∧ c < 2 ^ (128 - i) ∧ (q * b + r) * 2 ^ (128 - i) + c = x
theorem DvS.step {x b i a q r : Nat} (h : DvS x b i a q r) (hi : i < 128) (hb : 0 < b) :
    a < 340282366920938463463374607431768211456 ∧ 2 * q ≤ x ∧
    ∀ w r' a', 2 * r + a / 170141183460469231731687303715884105728 = w * b + r' → r' < b → a' = 2 * a % 340282366920938463463374607431768211456 → DvS x b (i + 1) a' (2 * q + w) r' ∧ 2 * q + w ≤ x := by
  obtain ⟨_, hr, c, h1, h2, h3⟩ := h
  obtain ⟨m, hm⟩ : ∃ m, m + 1 = 128 - i := ⟨127 - i, by omega⟩
  have hm2 : m = 128 - (i + 1) := by omega
  rw [← hm, Nat.pow_succ] at h2 h3
  obtain ⟨V, hV⟩ : ∃ V, V = 2 ^ m := ⟨_, rfl⟩
  obtain ⟨W, hW⟩ : ∃ W, W = 2 ^ i := ⟨_, rfl⟩
  have hVW : V * W = 170141183460469231731687303715884105728 := by
    rw [hV, hW, ← Nat.pow_add, show m + i = 127 by omega]
  have hVp : 0 < V := by rw [hV]; exact Nat.two_pow_pos m
  rw [← hV] at h2 h3
  rw [← hW] at h1
  obtain ⟨t, ht⟩ : ∃ t, t = c / V := ⟨_, rfl⟩
  obtain ⟨d, hd⟩ : ∃ d, d = c % V := ⟨_, rfl⟩
  have hc : c = t * V + d := by rw [ht, hd, Nat.mul_comm]; exact (Nat.div_add_mod c V).symm
  have hdV : d < V := by rw [hd]; exact Nat.mod_lt _ hVp
  have ht1 : t ≤ 1 := by
    have : t < 2 := by rw [ht, Nat.div_lt_iff_lt_mul hVp]; omega
    omega
  have ha : a = t * 170141183460469231731687303715884105728 + d * W := by
    rw [h1, hc, Nat.add_mul, Nat.mul_assoc, hVW]
  have hdW : d * W < 170141183460469231731687303715884105728 := by
    have : (d + 1) * W ≤ V * W := Nat.mul_le_mul_right _ hdV
    rw [hVW, Nat.add_mul] at this
    have hWp : 0 < W := by rw [hW]; exact Nat.two_pow_pos i
    omega
  have hbit : a / 170141183460469231731687303715884105728 = t := by
    rw [ha]; generalize d * W = z at *; omega
  have fin : ∀ w r', 2 * r + t = w * b + r' → ((2 * q + w) * b + r') * V + d = x := fun w r' e => by
    have e1 : (2 * q + w) * b + r' = 2 * (q * b + r) + t := by
      rw [Nat.add_mul, Nat.mul_assoc]
      generalize q * b = z at *
      generalize w * b = z' at *
      omega
    rw [e1, ← h3, hc, Nat.add_mul, Nat.mul_comm V 2, ← Nat.mul_assoc, Nat.mul_comm (q * b + r) 2]
    omega
  have big : ∀ w r', 2 * r + t = w * b + r' → 2 * q + w ≤ x := fun w r' e => by
    have e1 := fin w r' e
    have e2 : 2 * q + w ≤ (2 * q + w) * b := Nat.le_mul_of_pos_right _ hb
    have e3 : (2 * q + w) * b + r' ≤ ((2 * q + w) * b + r') * V := Nat.le_mul_of_pos_right _ hVp
    omega
  refine ⟨?_, ?_, ?_⟩
  · rw [ha]; generalize d * W = z at *; omega
  · exact Nat.le_trans (Nat.le_add_right _ _) (big _ _ (Nat.div_add_mod' (2 * r + t) b).symm)
  · intro w r' a' e hr' ha'
    rw [hbit] at e
    refine ⟨⟨by omega, hr', d, ?_, ?_, ?_⟩, big w r' e⟩
    · rw [ha', ha, Nat.pow_succ, ← hW, Nat.mul_comm W 2, Nat.mul_left_comm]
      generalize d * W = z at *
      omega
    · rw [← hm2, ← hV]; exact hdV
    · rw [← hm2, ← hV]; exact fin w r' e
theorem DvS.last {x b a q r : Nat} (h : DvS x b 128 a q r) : q = x / b ∧ r = x % b := by
  obtain ⟨_, hr, c, h1, h2, h3⟩ := h
  simp at h2 h3
  subst h2
  simp at h3
  subst h3
  have hb : 0 < b := by omega
  rw [Nat.mul_comm, Nat.mul_add_div hb, Nat.div_eq_of_lt hr, Nat.mul_add_mod, Nat.mod_eq_of_lt hr]
  exact ⟨rfl, rfl⟩

variable {C : CC} (hC : Closed prog C)
include hC
end Go.Gv

set_option linter.unusedSimpArgs false
namespace Go.Gv
variable {C : CC} (hC : Closed prog C)
include hC
end Go.Gv

set_option linter.unusedSimpArgs false
namespace Go.Gv
def nodA (nm : List UInt8) : Nod := { name := nm, kind := 1, x := 0, y := 0, invert := 0, ground := 1, shapeN := false, shape := [(0, 0), (1, 1)], prot := false, reserve := 0 }
def nodB (nm : List UInt8) : Nod := { name := nm, kind := 3, x := 0, y := 0, invert := 0, ground := 0, shapeN := true, shape := [], prot := false, reserve := 0 }
def pipeE (l : Lnk) (s : Sec) : Int := if linkOk l && secValid s then (if l.kind = 1 then (if l.sect = s.name then 0 else 25) else 11) else 1
variable {C : CC} (hC : Closed prog C)
include hC
end Go.Gv

set_option linter.unusedSimpArgs false
namespace Go.Gv
def enoughL (k flow len n : Nat) : Bool := decide (flow * flow * len ≤ k * k * n)
def lossN (k flow len : Nat) : Int × Int := if flow = 0 then (0, 0) else if k = 0 then (0, 16) else if enoughL k flow len 1073741824 then (bis (enoughL k flow len) 40 0 1073741824, 0) else (0, 5)
def lossF (l : Lnk) (s : Sec) (flow : Int) : Int × Int := lossN (lastK s.conv).2.toNat flow.toNat l.len.toNat
variable {C : CC} (hC : Closed prog C)
include hC
end Go.Gv

set_option linter.unusedSimpArgs false
namespace Go.Gv
def ceilN (x b : Nat) : Nat := if x % b = 0 then x / b else x / b + 1
def lostN (k f n : Nat) : Int × Int := if f = 0 then (0, 0) else if k = 0 then (0, 16) else if 1073741824 < ceilN (f * f * n) (k * k) then (0, 5) else (ceilN (f * f * n) (k * k), 0)
def lostF (l : Lnk) (s : Sec) (flow : Int) : Int × Int := lostN (lastK s.conv).2.toNat flow.toNat l.len.toNat
variable {C : CC} (hC : Closed prog C)
include hC
end Go.Gv

set_option linter.unusedSimpArgs false
namespace Go.Gv

variable {C : CC} (hC : Closed prog C)
include hC
end Go.Gv

set_option linter.unusedSimpArgs false
namespace Go.Gv
/-- The value of a table, as the reference finds it. -/
def valF (t : List (Int × Int)) (x : Int) : Int :=
  if posK t (x + 1) = 0 then t[0]!.2 else if posK t (x + 1) = t.length then t[posK t (x + 1) - 1]!.2 else (betK t[posK t (x + 1) - 1]! t[posK t (x + 1)]! x).1
variable {C : CC} (hC : Closed prog C)
include hC
end Go.Gv

set_option linter.unusedSimpArgs false
namespace Go.Gv
def depthR (s : Sec) (flow fall len : Int) : Int × Int :=
  if secValid s then (if 0 ≤ flow ∧ flow ≤ 1099511627776 ∧ slopeOk fall len = true then (if (carF s s.height fall len : Int) < flow then (0, 28) else (bis (enoughD s flow fall len) 40 0 s.height.toNat, 0)) else (0, 2)) else (0, 1)
variable {C : CC} (hC : Closed prog C)
include hC
end Go.Gv

set_option linter.unusedSimpArgs false
namespace Go.Gv
def mxI (a b : Int) : Int := if a < b then b else a
def fallF (l : Lnk) : Int := if 4194304 < l.up - l.down then 4194304 else l.up - l.down
def lowB (l : Lnk) (s : Sec) (flow level : Int) : Bool := decide (level < l.down + s.height) && (decide ((fullF s (fallF l) l.len).2 = 5) || (decide ((fullF s (fallF l) l.len).2 = 0) && decide (flow ≤ (fullF s (fallF l) l.len).1)))
def highF (l : Lnk) (s : Sec) (flow level : Int) : Int × Int :=
  if (lossF l s flow).2 = 0 then (if 1099511627776 < mxI (l.up + s.height) (level + (lossF l s flow).1) then (0, 5) else (mxI (l.up + s.height) (level + (lossF l s flow).1), 0)) else (0, (lossF l s flow).2)
def lowF (l : Lnk) (s : Sec) (flow level : Int) : Int × Int :=
  if (depthF s flow (fallF l) l.len).2 = 0 then (mxI (l.up + (depthF s flow (fallF l) l.len).1) level, 0) else (0, (depthF s flow (fallF l) l.len).2)
def aboveF (l : Lnk) (s : Sec) (flow level : Int) : Int × Int := if lowB l s flow level then lowF l s flow level else highF l s flow level
def upFq (l : Lnk) (s : Sec) (flow level : Int) : Int × Int :=
  if pipeE l s = 0 then (if l.up < l.down then (0, 23) else if lowHigh flow 0 1099511627776 && lowHigh level (-4194304) 1099511627776 then aboveF l s flow level else (0, 2)) else (0, pipeE l s)
def lossU (l : Lnk) (s : Sec) (flow : Int) : Int × Int :=
  if pipeE l s = 0 then (if lowHigh flow 0 1099511627776 then lossF l s flow else (0, 2)) else (0, pipeE l s)
variable {C : CC} (hC : Closed prog C)
include hC
end Go.Gv

set_option linter.unusedSimpArgs false
namespace Go.Gv
def grI (a b : Int) : Int := if b < a then a else b
def givenE (l : Lnk) (s : Sec) : Int := if linkR l && secValid s then (if l.kind = 1 then (if l.sect = s.name then 0 else 25) else 11) else 1
def highR (l : Lnk) (s : Sec) (flow level : Int) : Int × Int :=
  if (lostF l s flow).2 = 0 then (if 1099511627776 < grI (l.up + s.height) (level + (lostF l s flow).1) then (0, 5) else (grI (l.up + s.height) (level + (lostF l s flow).1), 0)) else (0, (lostF l s flow).2)
def aboveR (l : Lnk) (s : Sec) (flow level : Int) : Int × Int :=
  if (depthR s flow (fallF l) l.len).2 = 0 ∧ level < l.down + s.height then (grI (l.up + (depthR s flow (fallF l) l.len).1) level, 0) else highR l s flow level
def upR (l : Lnk) (s : Sec) (flow level : Int) : Int × Int :=
  if givenE l s = 0 then (if l.up < l.down then (0, 23) else if lowHigh flow 0 1099511627776 && lowHigh level (-4194304) 1099511627776 then aboveR l s flow level else (0, 2)) else (0, givenE l s)
def lossR (l : Lnk) (s : Sec) (flow : Int) : Int × Int :=
  if givenE l s = 0 then (if lowHigh flow 0 1099511627776 then lostF l s flow else (0, 2)) else (0, givenE l s)
variable {C : CC} (hC : Closed prog C)
include hC
end Go.Gv

set_option linter.unusedSimpArgs false
namespace Go.Gv
def secI (ss : List Sec) (nm : List UInt8) : Int := idxD (nameIs nm) ss
def findF (ss : List Sec) (nm : List UInt8) : Int × Int := if catValid ss then (if 0 ≤ secI ss nm then (secI ss nm, 0) else (0, 9)) else (0, 1)
def noSec (ss : List Sec) (l : Lnk) : Bool := decide (secI ss l.sect < 0)
def uphill (l : Lnk) : Bool := decide (l.up < l.down)
def pipE (ls : List Lnk) (ss : List Sec) : Int := if ls.any (noSec ss) then 9 else if ls.any uphill then 23 else 0
def givE (ns : List Nod) (ls : List Lnk) (ss : List Sec) (q : List Sp) (count : Int) : Int := if treeN ns ls && catValid ss then (if spsE q count = 0 then pipE ls ss else spsE q count) else 1
/-- What the depths of a pipe lean on. -/
structure PipOk (ss : List Sec) (l : Lnk) : Prop where
  idx : ∃ k, secI ss l.sect = (k : Nat) ∧ k < ss.length
  le : l.down ≤ l.up
  up : -4194304 ≤ l.up ∧ l.up ≤ 4194304
  down : -4194304 ≤ l.down ∧ l.down ≤ 4194304
  len : 1 ≤ l.len ∧ l.len ≤ 16777216
theorem PipOk.fall {ss : List Sec} {l : Lnk} (h : PipOk ss l) : slopeOk (fallF l) l.len = true := by
  have := h.le; have := h.len; have := h.up; have := h.down
  by_cases h : 4194304 < l.up - l.down <;> simp [slopeOk, fallF, h] <;> omega
theorem catValid_sec {ss : List Sec} (h : catValid ss = true) {k : Nat} (hk : k < ss.length) : secValid ss[k] = true := ((catValid_iff ss).1 h).2 k hk |>.1
variable {C : CC} (hC : Closed prog C)
include hC
end Go.Gv

set_option linter.unusedSimpArgs false
namespace Go.Gv
def capF (s : Sec) (depth fall len : Int) : Int × Int := if secValid s then (if 0 ≤ depth ∧ depth ≤ s.height ∧ slopeOk fall len = true then (if 1099511627776 < (carF s depth fall len : Int) then (0, 5) else (carF s depth fall len, 0)) else (0, 2)) else (0, 1)
def secL (ss : List Sec) (l : Lnk) : Sec := ss[(secI ss l.sect).toNat]?.getD ⟨[], 0, 0, true, [], true, []⟩
/-- The full capacity of a pipe, at most 2^40. -/
def fulF (ss : List Sec) (l : Lnk) : Int := if (capF (secL ss l) (secL ss l).height (fallF l) l.len).2 = 5 then 1099511627776 else (capF (secL ss l) (secL ss l).height (fallF l) l.len).1
theorem PipOk.sec {ss : List Sec} {l : Lnk} (h : PipOk ss l) : ∃ k, secI ss l.sect = (k : Nat) ∧ ∃ hk : k < ss.length, secL ss l = ss[k] := by
  obtain ⟨k, hk, hl⟩ := h.idx
  refine ⟨k, hk, hl, ?_⟩
  simp [secL, hk, hl]
theorem PipOk.find {ss : List Sec} {l : Lnk} (hv : catValid ss = true) (h : PipOk ss l) : findF ss l.sect = (secI ss l.sect, 0) := by
  obtain ⟨k, hk, hl⟩ := h.idx
  simp [findF, hv, hk]
theorem PipOk.valid {ss : List Sec} {l : Lnk} (hv : catValid ss = true) (h : PipOk ss l) : secValid (secL ss l) = true := by
  obtain ⟨k, hk, hl, e⟩ := h.sec
  rw [e]
  exact catValid_sec hv hl
theorem PipOk.wrap {ss : List Sec} {l : Lnk} (h : PipOk ss l) : IntKind.wrap .i64 (l.up - l.down) = l.up - l.down := by
  have := h.up; have := h.down
  exact wrap_i64 rfl (by omega)
variable {C : CC} (hC : Closed prog C)
include hC
end Go.Gv

set_option linter.unusedSimpArgs false
namespace Go.Gv
variable {C : CC} (hC : Closed prog C)
include hC
end Go.Gv

set_option linter.unusedSimpArgs false
namespace Go.Gv
def dRes (ss : List Sec) (l : Lnk) (n : Int) : Int × Int := depthF (secL ss l) n (fallF l) l.len
def dBad (ss : List Sec) (l : Lnk) (s : Sp) : Bool := !decide ((dRes ss l s.1).2 = 0) || !decide ((dRes ss l s.2).2 = 0)
def dSp (ss : List Sec) (l : Lnk) (s : Sp) : Sp := ((dRes ss l s.1).1, (dRes ss l s.2).1)
def anyBad (ss : List Sec) (ls : List Lnk) (q : List Sp) : Bool := (ls.zip q).any fun p => dBad ss p.1 p.2
def depL (ss : List Sec) (ls : List Lnk) (q : List Sp) : List Sp := List.zipWith (dSp ss) ls q
def DepE (ns : List Nod) (ls : List Lnk) (ss : List Sec) (q : List Sp) : Int := if givE ns ls ss q ls.length = 0 then (if anyBad ss ls q then 28 else 0) else givE ns ls ss q ls.length
def DepV (ns : List Nod) (ls : List Lnk) (ss : List Sec) (q : List Sp) : D := if DepE ns ls ss q = 0 then .sl ((depL ss ls q).map knD) else .nils
/-- The first j spans, as rows. -/
def spT (l : List Sp) (j : Nat) : List (List D) := (l.take j).map knD
variable {C : CC} (hC : Closed prog C)
include hC
end Go.Gv

set_option linter.unusedSimpArgs false
namespace Go.Gv
end Go.Gv

set_option linter.unusedSimpArgs false
namespace Go.Gv
/-! ### searches find the least -/
/-! ### losses -/
/-! ### roots and tables ascend -/
end Go.Gv

set_option linter.unusedSimpArgs false
namespace Go.Gv
def ldSp (ss : List Sec) (l : Lnk) (s : Sp) : Sp := (1000 * s.1 / fulF ss l, (1000 * s.2 + fulF ss l - 1) / fulF ss l)
def zeroL (ss : List Sec) (l : Lnk) : Bool := decide (fulF ss l = 0)
def ldL (ss : List Sec) (ls : List Lnk) (q : List Sp) : List Sp := List.zipWith (ldSp ss) ls q
def anyZ (ss : List Sec) (ls : List Lnk) : Bool := ls.any (zeroL ss)
def LdE (ns : List Nod) (ls : List Lnk) (ss : List Sec) (q : List Sp) : Int := if givE ns ls ss q ls.length = 0 then (if anyZ ss ls then 16 else 0) else givE ns ls ss q ls.length
def LdV (ns : List Nod) (ls : List Lnk) (ss : List Sec) (q : List Sp) : D := if LdE ns ls ss q = 0 then .sl ((ldL ss ls q).map knD) else .nils
variable {C : CC} (hC : Closed prog C)
include hC
end Go.Gv

set_option linter.unusedSimpArgs false
namespace Go.Gv
def ovG (ss : List Sec) (f : Sp → Int) (p : Lnk × Sp) : Option (List UInt8) := if fulF ss p.1 < f p.2 then some p.1.name else none
def ovTq (ss : List Sec) (f : Sp → Int) (ls : List Lnk) (fl : List Sp) (i : Nat) : List (List UInt8) := ((ls.zip fl).take i).filterMap (ovG ss f)
def strR (l : List (List UInt8)) : List (List D) := l.map fun s => [.str s]
theorem strR_len (l : List (List UInt8)) : (strR l).length = l.length := by simp [strR]
theorem strR_V (l : List (List UInt8)) : (strR l).map (fun e => e.map cellV) = strR l := by
  unfold strR
  rw [List.map_map]
  apply List.map_congr_left
  intro v _
  simp [cellV]
def OvE (ns : List Nod) (ls : List Lnk) (ss : List Sec) (q : List Sp) : Int := if givE ns ls ss q ns.length = 0 then flowsE ns.length (edgN ns ls) q else givE ns ls ss q ns.length
def OvV (f : Sp → Int) (ns : List Nod) (ls : List Lnk) (ss : List Sec) (q : List Sp) : D := if OvE ns ls ss q = 0 then .sl (strR (ovTq ss f ls (flowsF ns.length (edgN ns ls) q) ls.length)) else .nils
variable {C : CC} (hC : Closed prog C)
include hC
end Go.Gv

set_option linter.unusedSimpArgs false
namespace Go.Gv
variable {C : CC} (hC : Closed prog C)
include hC
theorem eqStr_c (b b' : Bool) (xs ys : List (List UInt8)) (hx : xs.length < 2 ^ 62) (hy : ys.length < 2 ^ 62) : C 435 [slx b (strR xs), slx b' (strR ys)] (.bool (decide (xs = ys))) [] := by
  obtain ⟨r, hr⟩ : ∃ r, r = decide (xs = ys) := ⟨_, rfl⟩
  rw [← hr]
  refine start hC (nf := N435_slices_Equal__string_string) rfl rfl ?_
  simp [N435_slices_Equal__string_string, strR]
  refine brB_of (fun h => ?_) (fun h => ?_) <;> simp at h <;> simp [h]
  · rw [hr, decide_eq_false]
    intro e
    exact h (by rw [e])
  have h' : xs.length = ys.length := by omega
  refine loop_of Nat (fun i => [(0, slx b (strR xs)), (1, slx b' (strR ys)), (12, .int .i64 xs.length), (13, .int .i64 i)])
    (fun i => i ≤ xs.length ∧ ∀ (k : Nat) (h1 : k < xs.length) (h2 : k < ys.length), k < i → xs[k] = ys[k]) (fun i => xs.length - i) 0 (by simp) (by simp [h', strR]) ?_
  rintro i ⟨hi, hok⟩
  simp [strR]
  refine brB_of (fun h1 => ?_) (fun h1 => ?_) <;> simp at h1 <;> simp [h1]
  · have hw : IntKind.wrap .i64 ((i : Int) + 1) = ((i + 1 : Nat) : Int) := wrap_i64 (by omega) (by omega)
    have hy1 : i < ys.length := by omega
    simp [h1, hy1]
    refine ⟨indW_of (by decide +kernel), ?_⟩
    by_cases h2 : xs[i] = ys[i]
    · simp [h2, hw]
      refine ⟨i + 1, ⟨by omega, fun k hk hk' hki => ?_⟩, by omega, by omega⟩
      rcases Nat.lt_succ_iff_lt_or_eq.1 hki with h3 | rfl
      · exact hok k hk hk' h3
      · exact h2
    · simp [h2]
      rw [hr, decide_eq_false]
      intro e
      subst e
      exact h2 rfl
  · rw [hr]
    have : xs = ys := by
      apply List.ext_getElem h'
      intro k a1 a2
      exact hok k a1 a2 (by omega)
    simp [this]
end Go.Gv

set_option linter.unusedSimpArgs false
namespace Go.Gv
def trn (es : List Edg) : List Edg := es.map fun e => (e.2, e.1)
def nodNm (ns : List Nod) (k : Nat) : List UInt8 := (ns[k]?.map (·.name)).getD []
/-- The names of the nodes that f takes. -/
def nmT (ns : List Nod) (f : Nat → Bool) : Nat → List (List UInt8)
  | 0 => []
  | k + 1 => nmT ns f k ++ (if f k = true then [nodNm ns k] else [])
theorem nodNm_get {ns : List Nod} {k : Nat} (h : k < ns.length) : nodNm ns k = ns[k].name := by simp [nodNm, h]
/-- The edges, of which the first j are turned. -/
def trA (es : List Edg) (j : Nat) : List (List D) := (List.range es.length).map fun k => edK (if k < j then (es[k]!.2, es[k]!.1) else es[k]!)
def waysE (ns : List Nod) (nm : List UInt8) : Int := if 0 ≤ idxD (nodIs nm) ns then 0 else 9
noncomputable def waysL (ns : List Nod) (te : List Edg) (nm : List UInt8) : List (List UInt8) := nmT ns (rB te (tgs te (idxD (nodIs nm) ns).toNat)) ns.length
noncomputable def waysV (ns : List Nod) (te : List Edg) (nm : List UInt8) : D := if 0 ≤ idxD (nodIs nm) ns then .sl (strR (waysL ns te nm)) else .nils
variable {C : CC} (hC : Closed prog C)
include hC
theorem found_c (d : List D) (i : Int) : C 498 [.agg d, .int .i64 i] (.tup [.int .i64 (if i < 0 then 0 else i), .int .i64 (if i < 0 then 9 else 0)]) [] := by
  refine start hC (nf := N498_network_found) rfl rfl ?_
  simp [N498_network_found]
  refine brB_of (fun h => ?_) (fun h => ?_) <;> simp at h <;> simp [h]
  omega
def AboveE (ns : List Nod) (ls : List Lnk) (nm : List UInt8) : Int := if netOk ns ls = true then waysE ns nm else 1
noncomputable def AboveV (ns : List Nod) (ls : List Lnk) (nm : List UInt8) : D := if netOk ns ls = true then waysV ns (trn (edgN ns ls)) nm else .nils
end Go.Gv

set_option linter.unusedSimpArgs false
namespace Go.Gv
def noutW (n : Nat) (out : Nat → Bool) : Nat := wtS (fun v => if out v = true then 0 else 1) n
variable {C : CC} (hC : Closed prog C)
include hC
end Go.Gv

set_option linter.unusedSimpArgs false
namespace Go.Gv
/-- What is upstream of node x, in the turned graph. -/
noncomputable def upsR (es : List Edg) (x : Nat) : Nat → Bool := rB (trn es) (tgs (trn es) x)
variable {C : CC} (hC : Closed prog C)
include hC
/-- What is upstream of a link's source, itself too. -/
noncomputable def upX (ns : List Nod) (ls : List Lnk) (x v : Nat) : Bool := if v = x then true else upsR (edgN ns ls) x v
end Go.Gv

set_option linter.unusedSimpArgs false
namespace Go.Gv
def bigNod (n : Nod) : Bool := decide (110 < n.shape.length) || decide (100 < n.name.length)
def bigLnk (l : Lnk) : Bool := decide (110 < l.curve.length) || decide (100 < l.name.length) || decide (100 < l.src.length) || decide (100 < l.dst.length) || decide (100 < l.sect.length)
def bigSec (s : Sec) : Bool := decide (110 < s.area.length) || decide (110 < s.conv.length) || decide (100 < s.name.length)
def large30 (ns : List Nod) (ls : List Lnk) (ss : List Sec) (k : Nat) : Bool := decide (12 < ns.length) || decide (20 < ls.length) || decide (12 < ss.length) || decide (25 < k) || ns.any bigNod || ls.any bigLnk || ss.any bigSec
def exNod (nm : UInt8) : Nod := ⟨[nm], 1, 0, 0, 0, 9, false, [(0, 0), (9, 5)], false, 0⟩
def exLnk (nm a b : UInt8) : Lnk := ⟨[nm], [a], [b], 1, 5, 3, 0, [115], 0, 0, true, []⟩
def exN : List Nod := [exNod 97, exNod 98, ⟨[111], 3, 0, 0, 0, 0, true, [], false, 0⟩]
def exLq : List Lnk := [exLnk 112 97 98, exLnk 113 98 111]
variable {C : CC} (hC : Closed prog C)
include hC
end Go.Gv

set_option linter.unusedSimpArgs false
namespace Go.Gv
variable {C : CC} (hC : Closed prog C)
include hC
end Go.Gv

set_option linter.unusedSimpArgs false
namespace Go.Gv
structure DepthOk (s : Sec) (fall len : Int) (y : Sp) : Prop where
  lo : 0 ≤ y.1
  hi : y.1 ≤ s.height
  fl : y.2 ≤ 1099511627776
  yes : y.2 ≤ (carF s y.1 fall len : Int)
  no : 0 < y.1 → (carF s (y.1 - 1) fall len : Int) < y.2
theorem DepthOk.cap {s : Sec} {fall len : Int} {y : Sp} (h : DepthOk s fall len y) (hs : secValid s = true) (hf : slopeOk fall len = true) : (capF s y.1 fall len).2 = 5 ∨ ((capF s y.1 fall len).2 = 0 ∧ y.2 ≤ (capF s y.1 fall len).1) := by
  have := h.yes
  unfold capF
  rw [if_pos hs, if_pos ⟨h.lo, h.hi, hf⟩]
  split
  · exact .inl rfl
  · exact .inr ⟨rfl, this⟩
variable {C : CC} (hC : Closed prog C)
include hC
end Go.Gv

set_option linter.unusedSimpArgs false
namespace Go.Gv
variable {C : CC} (hC : Closed prog C)
include hC
end Go.Gv

set_option linter.unusedSimpArgs false
namespace Go.Gv
def ptN (at' : List Int) (i : Nat) (s : Sp) : Int := if at'.length = 0 then s.1 else s.1 + at'[i % at'.length]! % (s.2 - s.1 + 1)
def ptSq (at' : List Int) (i : Nat) (s : Sp) : Sp := (ptN at' i s, ptN at' i s)
def ptL (at' : List Int) (q : List Sp) : List Sp := (List.range q.length).map fun i => ptSq at' i q[i]!
def insS (a b : Sp) : Bool := decide (b.1 ≤ a.1) && decide (a.2 ≤ b.2)
variable {C : CC} (hC : Closed prog C)
include hC
end Go.Gv

set_option linter.unusedSimpArgs false
namespace Go.Gv
/-- Spans of single numbers within spans. -/
structure FlIn (a b : List Sp) : Prop where
  len : b.length = a.length
  get : ∀ (i : Nat) (h : i < a.length) (h' : i < b.length), 0 ≤ a[i].1 ∧ a[i].1 ≤ b[i].1 ∧ b[i].1 = b[i].2 ∧ b[i].2 ≤ a[i].2
end Go.Gv

set_option linter.unusedSimpArgs false
namespace Go.Gv
theorem Pth.wat {es : List Edg} (hnd : (es.map (·.1)).Nodup) {v x : Nat} (h : Pth es v x) : ∃ m, wat es m v = some x := by
  have cons : ∀ {u v : Nat}, (u, v) ∈ es → ∀ m, Go.Gv.wat es (m + 1) u = Go.Gv.wat es m v := fun {u v} e m => by
    induction m with
    | zero => show (some u).bind (stp es) = some v; exact stp_of hnd e
    | succ m ih =>
      show (Go.Gv.wat es (m + 1) u).bind (stp es) = (Go.Gv.wat es m v).bind (stp es)
      rw [ih]
  induction h with
  | refl v => exact ⟨0, rfl⟩
  | step e _ ih =>
    obtain ⟨m, hm⟩ := ih
    exact ⟨m + 1, by rw [cons e]; exact hm⟩
def sumSp (q : List Sp) (f : Nat → Bool) (k : Nat) : Sp := (sumFq (fun v => if f v = true then q[v]!.1 else 0) k, sumFq (fun v => if f v = true then q[v]!.2 else 0) k)
variable {C : CC} (hC : Closed prog C)
include hC
end Go.Gv

set_option linter.unusedSimpArgs false
namespace Go.Gv
/-- There is a way of at least one edge. -/
noncomputable def wyB (es : List Edg) (i k : Nat) : Bool := rB es (tgs es i) k
theorem mem_tgs2 {es : List Edg} {i k : Nat} : k ∈ tgs es i ↔ (i, k) ∈ es := mem_tgs
theorem wyB_iff {es : List Edg} {i k : Nat} : wyB es i k = true ↔ ∃ s, (i, s) ∈ es ∧ Pth es s k := by
  unfold wyB
  rw [rB_iff]
  constructor
  · rintro ⟨s, h1, h2⟩
    exact ⟨s, mem_tgs2.1 h1, h2⟩
  · rintro ⟨s, h1, h2⟩
    exact ⟨s, mem_tgs2.2 h1, h2⟩
/-! ### Loops -/
section
variable (n : Nat) (R : Nat → Nat → Bool)
def mutB (i k : Nat) : Bool := R i k && R k i
def lpSeen (i k : Nat) : Bool := (List.range i).any fun j => decide (j < k) && mutB R j k
def lpL (i : Nat) : List Nat := (List.range n).filter fun k => decide (k = i) || (decide (i < k) && mutB R i k)
def lpsT : Nat → List (List Nat)
  | 0 => []
  | i + 1 => lpsT i ++ (if lpSeen R i i || !R i i then [] else [lpL n R i])
variable {n R}
/-- What was done, for the reference. -/
def lpDone (R : Nat → Nat → Bool) (i k : Nat) : Bool := (List.range i).any fun j => mutB R j k
end
end Go.Gv

namespace Go.Gv
theorem OrdI.closed {n : Nat} {es : List Edg} {out : List Nat} (h : OrdI n es out) {u v : Nat} (hp : Pth es u v) (hv : v ∈ out) : u ∈ out := by
  induction hp with
  | refl v => exact hv
  | step e _ ih => exact h.pre _ (ih hv) _ e
end Go.Gv

set_option linter.unusedSimpArgs false
namespace Go.Gv
noncomputable def clsR (n : Nat) (es : List Edg) (j : Nat) : List (List D) := (List.range j).map fun i => [D.sl (boolA n (rB es [i]))]
theorem clsR_len (n : Nat) (es : List Edg) (j : Nat) : (clsR n es j).length = j := by simp [clsR]
theorem clsR_zero (n : Nat) (es : List Edg) : clsR n es 0 = [] := rfl
theorem clsR_succ (n : Nat) (es : List Edg) (j : Nat) : clsR n es j ++ [[D.sl (boolA n (rB es [j]))]] = clsR n es (j + 1) := by simp [clsR, List.range_succ]
theorem clsR_V (n : Nat) (es : List Edg) (j : Nat) : (clsR n es j).map (fun e => e.map cellV) = clsR n es j := by
  unfold clsR
  rw [List.map_map]
  apply List.map_congr_left
  intro v _
  simp [cellV]
theorem clsR_get {n : Nat} {es : List Edg} {j i : Nat} (h : i < j) : (clsR n es j)[i]? = some [D.sl (boolA n (rB es [i]))] := by simp [clsR, h]
/-- The rows of a table of truths, so far as they are made. -/
def iniR (n j : Nat) : List (List D) := (List.range n).map fun i => [D.own 1 (if i < j then boolA n (fun _ => false) else [])]
def ownR (n : Nat) (f : Nat → Nat → Bool) : List (List D) := (List.range n).map fun i => [D.own 1 (boolA n (f i))]
theorem iniR_get {n j i : Nat} (h : i < n) : (iniR n j)[i]? = some [D.own 1 (if i < j then boolA n (fun _ => false) else [])] := by simp [iniR, h]
theorem iniR_set {n j : Nat} : (iniR n j).set j [D.own 1 (boolA n fun _ => false)] = iniR n (j + 1) := by
  unfold iniR
  rw [set_rm]
  apply List.map_congr_left
  intro v _
  by_cases e : v = j
  · subst e; simp
  · have : (v < j) = (v < j + 1) := by apply propext; omega
    simp only [if_neg e, this]
theorem iniR_zero (n : Nat) : List.replicate n [D.own 1 []] = iniR n 0 := by simp [iniR, List.map_const']
theorem iniR_end (n : Nat) : iniR n n = ownR n fun _ _ => false := by
  unfold iniR ownR
  apply List.map_congr_left
  intro v hv
  rw [if_pos (by simpa using hv)]
theorem ownR_len (n : Nat) (f : Nat → Nat → Bool) : (ownR n f).length = n := by simp [ownR]
theorem ownR_get {n i : Nat} (f : Nat → Nat → Bool) (h : i < n) : (ownR n f)[i]? = some [D.own 1 (boolA n (f i))] := by simp [ownR, h]
theorem ownR_set {n i k : Nat} (f : Nat → Nat → Bool) (x : Bool) : (ownR n f).set i [D.own 1 ((boolA n (f i)).set k [.bool x])] = ownR n fun u v => if u = i ∧ v = k then x else f u v := by
  unfold ownR
  rw [set_rm]
  apply List.map_congr_left
  intro v _
  by_cases e : v = i
  · subst e
    rw [if_pos rfl, boolA_set]
    congr 3
    funext u
    simp
  · rw [if_neg e]
    congr 3
    funext u
    simp [e]
theorem ownR_V (n : Nat) (f : Nat → Nat → Bool) : (ownR n f).map (fun e => e.map cellV) = (List.range n).map fun i => [D.sl (boolA n (f i))] := by
  unfold ownR
  rw [List.map_map]
  apply List.map_congr_left
  intro v _
  simp [cellV]
/-- What the edges so far lead to; row i, up to column k, with one edge more. -/
noncomputable def wyJ (es : List Edg) (j : Nat) (i k : Nat) : Bool := (es.take j).any fun e => decide (e.1 = i) && rB es [e.2] k
noncomputable def wyK (es : List Edg) (j c : Nat) (i k : Nat) : Bool := if k < c then wyJ es (j + 1) i k else wyJ es j i k
theorem wyJ_zero (es : List Edg) : wyJ es 0 = fun _ _ => false := by funext i k; simp [wyJ]
theorem wyJ_succ {es : List Edg} {j : Nat} (h : j < es.length) (i k : Nat) : wyJ es (j + 1) i k = (wyJ es j i k || (decide (es[j].1 = i) && rB es [es[j].2] k)) := by
  unfold wyJ
  rw [List.take_succ_eq_append_getElem h, List.any_append]
  simp
theorem wyJ_end (es : List Edg) (i k : Nat) : wyJ es es.length i k = wyB es i k := by
  rw [Bool.eq_iff_iff, wyB_iff]
  unfold wyJ
  rw [List.take_length]
  simp only [List.any_eq_true, Bool.and_eq_true, decide_eq_true_eq, rB_iff]
  constructor
  · rintro ⟨⟨a, b⟩, h1, rfl, s, hs, hp⟩
    simp at hs; subst hs
    exact ⟨s, h1, hp⟩
  · rintro ⟨s, h1, hp⟩
    exact ⟨(i, s), h1, rfl, s, by simp, hp⟩
theorem wyK_step {es : List Edg} {j c n : Nat} (h : j < es.length) {x : Bool} (hx : x = (wyJ es j es[j].1 c || rB es [es[j].2] c)) : ownR n (fun u v => if u = es[j].1 ∧ v = c then x else wyK es j c u v) = ownR n (wyK es j (c + 1)) := by
  congr 1
  funext u v
  unfold wyK
  by_cases e2 : v = c
  · subst e2
    rw [if_neg (Nat.lt_irrefl v), if_pos (Nat.lt_succ_self v), wyJ_succ h]
    by_cases e1 : u = es[j].1
    · subst e1; simp [hx]
    · have : ¬ es[j].1 = u := fun e => e1 e.symm
      simp [e1, this]
  · have e3 : (v < c) = (v < c + 1) := by apply propext; omega
    simp only [e2, and_false, if_false, e3]
noncomputable def wayD (n : Nat) (es : List Edg) : D := .sl ((List.range n).map fun i => [.sl (boolA n (wyB es i))])
variable {C : CC} (hC : Closed prog C)
include hC
theorem gClos_c (hS : SlC C) {b : Bool} {n : Nat} {es : List Edg} (hn : n ≤ 300) (he : es.length ≤ 1000) (hg : inG n es) : C 635 [.int .i64 n, slx b (es.map edK)] (.tup [.sl (clsR n es n), .int .i64 0]) [] := by
  have k0 := gValid_c hC b n (es.map edI) (by simp; omega)
  rw [← edK_map, gOk_of hC hn he hg] at k0
  have k1 := next_c hC hS (b := b) hn he hg
  refine start hC (nf := N635_digraph_Closure) rfl rfl ?_
  simp [N635_digraph_Closure]
  refine callW_of k0 (.inl rfl) ?_
  simp
  refine callW_of k1 (.inr rfl) ?_
  obtain ⟨X, hX⟩ : ∃ X, nxtD n es = .sl X := ⟨_, rfl⟩
  simp [hX]
  refine loop_of Nat (fun j => [(6, .sl X), (7, .ref (.r 10112) 0 j), (10112, .blk 1 (clsR n es j)), (16, .int .i64 n), (17, .int .i64 j)]) (fun j => j ≤ n) (fun j => n - j) 0 (by simp) (by simp [clsR_zero]) ?_
  intro j hj
  simp
  refine brB_of (fun h => ?_) (fun h => ?_) <;> simp at h
  · have hw : IntKind.wrap .i64 ((j : Int) + 1) = ((j + 1 : Nat) : Int) := wrap_i64 (by omega) (by omega)
    have k2 := reach_c hC (b := false) hn hg [j] (by simp; omega) (by simp)
    rw [hX] at k2
    simp [h]
    refine callW_of k2 (.inr rfl) ?_
    simp [clsR_len]
    have e : List.take j (clsR n es j) = clsR n es j := List.take_of_length_le (by rw [clsR_len]; exact Nat.le_refl _)
    exact ⟨by omega, j + 1, by omega, by omega, rfl, by rw [e, clsR_succ], hw⟩
  · have ej : j = n := by omega
    subst ej
    simp [h, clsR_len, clsR_V]
    exact (List.take_of_length_le (by rw [clsR_len]; exact Nat.le_refl _)).symm
theorem ends_c (b1 b2 : Bool) (ns : List Nod) (ls : List Lnk) (hv : netOk ns ls = true) (hcv : ∀ l ∈ ls, l.curve.length < 2 ^ 62) : C 627 [.agg [slx b1 (ns.map nodC), slx b2 (ls.map lnkC)]] (.sl ((edgN ns ls).map edK)) [] := by
  have k1 := NEdges_c hC b1 b2 ns ls hcv
  rw [hv] at k1
  simp only [if_true] at k1
  refine start hC (nf := N627_checker_ends) rfl rfl ?_
  simp [N627_checker_ends]
  refine callW_of k1 (.inr rfl) ?_
  simp
set_option maxHeartbeats 2000000 in
theorem cWays_c (hS : SlC C) (b1 b2 : Bool) (ns : List Nod) (ls : List Lnk) (hv : netOk ns ls = true) (hcv : ∀ l ∈ ls, l.curve.length < 2 ^ 62) : C 600 [.agg [slx b1 (ns.map nodC), slx b2 (ls.map lnkC)]] (wayD ns.length (edgN ns ls)) [] := by
  have hn : ns.length ≤ 300 := (netOk_len hv).1
  have he : (edgN ns ls).length ≤ 1000 := by rw [edgN_len]; have := (netOk_len hv).2; omega
  have hg : inG ns.length (edgN ns ls) := edgN_in hv
  have k1 := ends_c hC b1 b2 ns ls hv hcv
  have k2 := gClos_c hC hS (b := false) hn he hg
  rw [slx_false] at k2
  generalize edgN ns ls = es at *
  obtain ⟨X, hX, hXg⟩ : ∃ X, X = clsR ns.length es ns.length ∧ ∀ i, i < ns.length → X[i]? = some [D.sl (boolA ns.length (rB es [i]))] := ⟨_, rfl, fun i hi => clsR_get hi⟩
  rw [← hX] at k2
  clear hX
  refine start hC (nf := N600_checker_ways) rfl rfl ?_
  simp [N600_checker_ways]
  refine callW_of k1 (.inr rfl) ?_
  simp
  refine callW_of k2 (.inr rfl) ?_
  simp [iniR_zero]
  refine ⟨by omega, ?_⟩
  refine loop_of Nat (fun j => [(1, .ptr [slx b1 (ns.map nodC), slx b2 (ls.map lnkC)]), (3, .sl (es.map edK)), (4, .sl X), (6, .ref (.r 10096) 0 ns.length), (10096, .blk 1 (iniR ns.length j)), (27, .int .i64 ns.length), (28, .int .i64 j)]) (fun j => j ≤ ns.length) (fun j => ns.length - j) 0 (by simp) (by simp) ?_
  intro j hj
  simp
  refine brB_of (fun h => ?_) (fun h => ?_) <;> simp at h
  · have hw : IntKind.wrap .i64 ((j : Int) + 1) = ((j + 1 : Nat) : Int) := wrap_i64 (by omega) (by omega)
    have hg0 := iniR_get (j := j) h
    rw [if_neg (Nat.lt_irrefl j)] at hg0
    simp [h, hw, hg0]
    have e1 : (iniR ns.length j).set j [D.own 1 (List.replicate ns.length [D.bool false])] = iniR ns.length (j + 1) := by
      rw [← iniR_set]
      congr 3
      simp [boolA, rep_map]
    rw [e1]
    exact ⟨by omega, j + 1, by omega, by omega, rfl, rfl⟩
  · have ej : j = ns.length := by omega
    subst ej
    have e2 : iniR ns.length ns.length = ownR ns.length (wyJ es 0) := by rw [iniR_end, wyJ_zero]
    simp [h, e2]
    refine loop_of Nat (fun j => [(4, .sl X), (6, .ref (.r 10096) 0 ns.length), (10096, .blk 1 (ownR ns.length (wyJ es j))), (39, .sl (es.map edK)), (40, .int .i64 es.length), (41, .int .i64 j)]) (fun j => j ≤ es.length) (fun j => es.length - j) 0 (by simp) (by simp) ?_
    intro j hj
    simp
    refine brB_of (fun h => ?_) (fun h => ?_) <;> simp at h
    · have hw : IntKind.wrap .i64 ((j : Int) + 1) = ((j + 1 : Nat) : Int) := wrap_i64 (by omega) (by omega)
      have hin := hg es[j] (List.getElem_mem _)
      obtain ⟨i, e, hie⟩ : ∃ i e, es[j] = (i, e) := ⟨_, _, rfl⟩
      simp [hie] at hin
      simp [h, edK, knD, hie, idxW_some (hXg e hin.2)]
      have hB := boolA_len ns.length (rB es [e])
      rw [hB]
      refine loop_of Nat (fun c => [(4, .sl X), (6, .ref (.r 10096) 0 ns.length), (9, .adr (.r 10144) 0 0), (39, .sl (es.map edK)), (40, .int .i64 es.length), (41, .int .i64 j), (49, .sl (boolA ns.length (rB es [e]))), (50, .int .i64 ns.length), (51, .int .i64 c), (10096, .blk 1 (ownR ns.length (wyK es j c))), (10144, .blk 2 [[.int .i64 i, .int .i64 e]])]) (fun c => c ≤ ns.length) (fun c => ns.length - c) 0 (by simp) (by
        have : ownR ns.length (wyK es j 0) = ownR ns.length (wyJ es j) := by unfold wyK; simp
        simp [this]) ?_
      intro c hc
      simp
      refine brB_of (fun h2 => ?_) (fun h2 => ?_) <;> simp at h2
      · have hw2 : IntKind.wrap .i64 ((c : Int) + 1) = ((c + 1 : Nat) : Int) := wrap_i64 (by omega) (by omega)
        have hrow := ownR_get (wyK es j c) hin.1
        have hcell := boolA_get (wyK es j c i) h2
        have hval : wyK es j c i c = wyJ es j i c := by simp [wyK]
        have hset : ∀ x, x = (wyJ es j i c || rB es [e] c) → (ownR ns.length (wyK es j c)).set i [D.own 1 ((boolA ns.length (wyK es j c i)).set c [D.bool x])] = ownR ns.length (wyK es j (c + 1)) := fun x hx => by
          rw [ownR_set]
          have := wyK_step (n := ns.length) (c := c) h (x := x) (by rw [hie]; exact hx)
          rw [hie] at this
          exact this
        have hrowE : (ownR ns.length (wyK es j c))[i]'(by rw [ownR_len]; exact hin.1) = [D.own 1 (boolA ns.length (wyK es j c i))] := (List.getElem?_eq_some_iff.1 hrow).2
        simp [h2, hw2, idxW_some (boolA_get (rB es [e]) h2), rowW_some hrow, hrow, hin.1, ownR_len, boolA_len, hrowE, rowW_some hcell, hval]
        have hcellE : (boolA ns.length (wyK es j c i))[c]'(by rw [boolA_len]; exact h2) = [D.bool (wyJ es j i c)] := (List.getElem?_eq_some_iff.1 hcell).2.trans (by rw [hval])
        refine brB_of (fun hv1 => ?_) (fun hv1 => ?_)
        · have e3 := hset true (by rw [hv1]; rfl)
          rw [hv1]
          simp [hrow, hrowE, hin.1, h2, ownR_len, boolA_len, rowW_some hrow, rowW_some hcell, hval, hcellE, e3, hw2]
          exact ⟨indW_of (by decide +kernel), c + 1, by omega, by omega, by omega, rfl⟩
        · have e3 := hset (rB es [e] c) (by rw [hv1]; rfl)
          rw [hv1]
          simp [hrow, hrowE, hin.1, h2, ownR_len, boolA_len, rowW_some hrow, rowW_some hcell, hval, hcellE, e3, hw2]
          exact ⟨indW_of (by decide +kernel), c + 1, by omega, by omega, by omega, rfl⟩
      · have ec : c = ns.length := by omega
        subst ec
        have e4 : ownR ns.length (wyK es j ns.length) = ownR ns.length (wyJ es (j + 1)) := by
          unfold ownR
          apply List.map_congr_left
          intro u _
          rw [boolA_congr (g := wyJ es (j + 1) u) fun v hv => by simp [wyK, hv]]
        simp [h2, hw, e4]
        exact ⟨j + 1, by omega, by omega, rfl, by omega⟩
    · have ej : j = es.length := by omega
      subst ej
      simp [h, ownR_len, ownR_V]
      unfold wayD
      rw [List.take_of_length_le (by simp)]
      congr 1
      apply List.map_congr_left
      intro i _
      rw [boolA_congr fun v _ => wyJ_end es i v]
end Go.Gv

set_option linter.unusedSimpArgs false
namespace Go.Gv
def nodK (ns : List Nod) (k : Nat) : Int := (ns[k]?.map (·.kind)).getD 0
theorem nodK_get {ns : List Nod} {k : Nat} (h : k < ns.length) : nodK ns k = ns[k].kind := by simp [nodK, h]
def backB (l : Lnk) : Bool := decide (l.kind = 1) && decide (l.up < l.down)
noncomputable def lostB (ns : List Nod) (es : List Edg) (i : Nat) : Bool := !decide (nodK ns i = 3) && !((List.range ns.length).any fun k => wyB es i k && decide (nodK ns k = 3))
/-- The names of the links that f takes. -/
def lmT (ls : List Lnk) (f : Lnk → Bool) (j : Nat) : List (List UInt8) := ((ls.take j).filter f).map (·.name)
theorem lmT_zero (ls : List Lnk) (f : Lnk → Bool) : lmT ls f 0 = [] := by simp [lmT]
theorem lmT_succ {ls : List Lnk} (f : Lnk → Bool) {j : Nat} (h : j < ls.length) : lmT ls f (j + 1) = lmT ls f j ++ (if f ls[j] = true then [ls[j].name] else []) := by
  unfold lmT
  rw [List.take_succ_eq_append_getElem h, List.filter_append, List.map_append]
  by_cases e : f ls[j] = true <;> simp [e]
theorem lmT_len (ls : List Lnk) (f : Lnk → Bool) (j : Nat) : (lmT ls f j).length ≤ j := by
  unfold lmT
  rw [List.length_map]
  exact Nat.le_trans (List.length_filter_le _ _) (by simp; omega)
theorem strR_isC (l : List (List UInt8)) : ∀ e ∈ strR l, ∀ c ∈ e, isC1 c = true := by
  intro e he c hc
  obtain ⟨x, _, rfl⟩ := List.mem_map.1 he
  simp at hc; subst hc; rfl
theorem strR_snoc (l : List (List UInt8)) (s : List UInt8) : strR l ++ [[.str s]] = strR (l ++ [s]) := by simp [strR]
theorem strR_tk (l : List (List UInt8)) : (strR l).take l.length = strR l := List.take_of_length_le (by rw [strR_len]; exact Nat.le_refl _)
/-! ### The loop of a node, so far as it is known -/
def lpLk (R : Nat → Nat → Bool) (i k : Nat) : List Nat := (List.range k).filter fun k' => decide (k' = i) || (decide (i < k') && mutB R i k')
def lpS (R : Nat → Nat → Bool) (i k v : Nat) : Bool := if v < k then lpSeen R (i + 1) v else lpSeen R i v
def lpR (ns : List Nod) (l : List (List Nat)) : List (List D) := l.map fun x => [.own 1 (strR (x.map (nodNm ns)))]
/-- Lists of names. -/
def lstD (l : List (List (List UInt8))) : List (List D) := l.map fun x => [.sl (strR x)]
/-- The loops, by their names. -/
noncomputable def loopN (ns : List Nod) (es : List Edg) : List (List (List UInt8)) := (lpsT ns.length (wyB es) ns.length).map fun x => x.map (nodNm ns)
variable {C : CC} (hC : Closed prog C)
include hC
theorem back_c (l : Lnk) : C 601 [.agg (lnkC l)] (.bool (backB l)) [] := by
  refine start hC (nf := N601_checker_isBackwards) rfl rfl ?_
  simp [N601_checker_isBackwards, lnkC]
  unfold backB
  refine brB_of (fun h => ?_) (fun h => ?_) <;> simp at h <;> simp [h]
theorem isLost_c (b1 b2 : Bool) (ns : List Nod) (ls : List Lnk) (es : List Edg) (i : Nat) (hn : ns.length ≤ 300) (hi : i < ns.length) : C 602 [.agg [slx b1 (ns.map nodC), slx b2 (ls.map lnkC)], wayD ns.length es, .int .i64 i] (.bool (lostB ns es i)) [] := by
  obtain ⟨X, hX, hXg⟩ : ∃ X, wayD ns.length es = .sl X ∧ ∀ i, i < ns.length → X[i]? = some [D.sl (boolA ns.length (wyB es i))] := ⟨_, rfl, fun i hi => by simp [hi]⟩
  rw [hX]
  have hB := boolA_len ns.length (wyB es i)
  refine start hC (nf := N602_checker_isLost) rfl rfl ?_
  simp [N602_checker_isLost, nodC, hi]
  unfold lostB
  rw [nodK_get hi]
  refine brB_of (fun h => ?_) (fun h => ?_) <;> simp at h
  · simp [h]
  · simp [h, idxW_some (hXg i hi), hB]
    refine loop_of Nat (fun c => [(3, .ptr [slx b1 (ns.map nodC), slx b2 (ls.map lnkC)]), (19, .sl (boolA ns.length (wyB es i))), (20, .int .i64 ns.length), (21, .int .i64 c)]) (fun c => c ≤ ns.length ∧ ∀ k, k < c → (wyB es i k && decide (nodK ns k = 3)) = false) (fun c => ns.length - c) 0 ⟨by omega, by simp⟩ (by simp) ?_
    rintro c ⟨hc, hf⟩
    simp
    refine brB_of (fun h2 => ?_) (fun h2 => ?_) <;> simp at h2
    · have hw2 : IntKind.wrap .i64 ((c : Int) + 1) = ((c + 1 : Nat) : Int) := wrap_i64 (by omega) (by omega)
      simp [h2, idxW_some (boolA_get (wyB es i) h2)]
      refine brB_of (fun h3 => ?_) (fun h3 => ?_)
      · simp [h3, h2, nodC]
        refine brB_of (fun h4 => ?_) (fun h4 => ?_) <;> simp at h4
        · have : ((List.range ns.length).any fun k => wyB es i k && decide (nodK ns k = 3)) = true := List.any_eq_true.2 ⟨c, by simpa using h2, by simp [h3, nodK_get h2, h4]⟩
          simp [h4, this]
        · simp [h4, hw2]
          refine ⟨c + 1, ⟨by omega, fun k hk => ?_⟩, by omega, by omega⟩
          rcases (show k < c ∨ k = c by omega) with h5 | rfl
          · have := hf k h5
            simpa using this
          · simp [nodK_get h2, h4]
      · simp [h3, hw2]
        refine ⟨c + 1, ⟨by omega, fun k hk => ?_⟩, by omega, by omega⟩
        rcases (show k < c ∨ k = c by omega) with h5 | rfl
        · have := hf k h5
          simpa using this
        · simp [h3]
    · have ec : c = ns.length := by omega
      subst ec
      have : ((List.range ns.length).any fun k => wyB es i k && decide (nodK ns k = 3)) = false := by
        rw [List.any_eq_false]
        intro k hk
        rw [hf k (by simpa using hk)]; simp
      simp [h2, h, this]
theorem Adverse_c (b1 b2 : Bool) (ns : List Nod) (ls : List Lnk) (hcv : ∀ l ∈ ls, l.curve.length < 2 ^ 62) : C 556 [.agg [slx b1 (ns.map nodC), slx b2 (ls.map lnkC)]] (.tup (if netOk ns ls then [.sl (strR (lmT ls backB ls.length)), .int .i64 0] else [.nils, .int .i64 1])) [] := by
  have k0 := netOk_c hC b1 b2 ns ls hcv
  refine start hC (nf := N556_checker_Adverse) rfl rfl ?_
  simp [N556_checker_Adverse]
  refine callW_of k0 (.inl rfl) ?_
  cases hv : netOk ns ls
  · simp
  have hl := (netOk_len hv).2
  simp
  refine loop_of Nat (fun j => [(4, .ref (.r 10064) 0 (lmT ls backB j).length), (10064, .blk 1 (strR (lmT ls backB j))), (11, slx b2 (ls.map lnkC)), (12, .int .i64 ls.length), (13, .int .i64 j)]) (fun j => j ≤ ls.length) (fun j => ls.length - j) 0 (by simp) (by simp [lmT_zero, strR]) ?_
  intro j hj
  simp
  refine brB_of (fun h => ?_) (fun h => ?_) <;> simp at h
  · have hw : IntKind.wrap .i64 ((j : Int) + 1) = ((j + 1 : Nat) : Int) := wrap_i64 (by omega) (by omega)
    have k1 := back_c hC ls[j]
    have hs := lmT_succ backB h
    have hlen := lmT_len ls backB j
    have ht := strR_tk (lmT ls backB j)
    have hc := strR_isC (lmT ls backB j)
    simp [h, lnkC]
    refine callW_of (by simpa [lnkC] using k1) (.inr rfl) ?_
    simp
    refine brB_of (fun h2 => ?_) (fun h2 => ?_)
    · rw [if_pos h2] at hs
      simp [h2, strR_len, ht, strR_snoc, hw]
      exact ⟨by omega, j + 1, by omega, by omega, by rw [hs]; simp, by rw [hs], by omega⟩
    · rw [if_neg (by rw [h2]; simp), List.append_nil] at hs
      simp [h2, hw]
      exact ⟨j + 1, by omega, by omega, by rw [hs], by rw [hs], by omega⟩
  · have ej : j = ls.length := by omega
    subst ej
    simp [h, strR_len, strR_V, strR_tk]
end Go.Gv

set_option linter.unusedSimpArgs false
namespace Go.Gv
theorem idxD_here {α : Type} {p : α → Bool} {xs : List α} (h : 0 ≤ idxD p xs) : ∃ h : (idxD p xs).toNat < xs.length, p xs[(idxD p xs).toNat] = true := by
  have key : ∀ i : Nat, idxD p xs = (i : Int) → ∃ h : i < xs.length, p xs[i] = true := by
    intro i h
    unfold idxD at h
    cases e : xs.findIdx? p with
    | none => rw [e] at h; simp at h
    | some k =>
      rw [e] at h
      obtain ⟨h1, h2, _⟩ := List.findIdx?_eq_some_iff_getElem.1 e
      have ek : k = i := by have h : (k : Int) = (i : Int) := h; omega
      subst ek
      exact ⟨h1, h2⟩
  exact key _ (by omega)
variable {C : CC} (hC : Closed prog C)
include hC
end Go.Gv
