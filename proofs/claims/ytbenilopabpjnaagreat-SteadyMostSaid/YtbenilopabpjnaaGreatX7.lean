/-
  Texts of the proof: GvW, GvX, GvX2, Q2, K4, K5, K6, K7, K8, K2, K9, Q3, Q4, Q5, B1, B2, K10, B3, B4, B5, Q6, Q7, Q12, Q22, Q28, S0.
-/
import Derived.Test.YtbenilopabpjnaaGreatX6
import Derived.Lib.Mul64
import Derived.Laws.Bits64b
import Derived.Laws.MathBits
set_option linter.all false
namespace Go.Gv
section
variable {C : CC}
theorem resX_mono {f : Nat → D} {dst : Option Nat} {K K' : KT} {o : NOp} (h : resX C f dst K o) (hk : ∀ ws ks, K ws ks → K' ws ks) : resX C f dst K' o := by
  obtain ⟨ws, ks, h1, h2⟩ := resX_one h
  exact h2 K' (hk ws ks h1)
theorem skipE_mono {e : Env} {dst : Option Nat} {K K' : Env → Prop} (h : skipE e dst K) (hk : ∀ e, K e → K' e) : skipE e dst K' := by
  unfold skipE at h ⊢
  split at h
  · exact hk _ h
  · exact hk _ h
theorem wpNs_mono {K K' : Env → Prop} (hk : ∀ e, K e → K' e) : ∀ (ns : List NOper) (e : Env), wpNs C K ns e → wpNs C K' ns e
  | [], e, h => hk e h
  | o :: os, e, h => by
    rw [wpNs] at h ⊢
    split at h
    · exact resX_mono h (fun ws ks h1 => wpNs_mono hk os _ h1)
    · split at h
      · exact ⟨fun hb => resX_mono (h.1 hb) (fun ws ks h1 => wpNs_mono hk os _ h1), fun hb => skipE_mono (h.2 hb) (fun e h1 => wpNs_mono hk os e h1)⟩
      · exact skipE_mono h (fun e h1 => wpNs_mono hk os e h1)
      · exact h.elim
theorem wpNd_mono {hs : List Nat} {K K' : Env → Prop} (hk : ∀ e, K e → K' e) : ∀ (ns : List NOper) (e : Env) (acc : List (List Nat × List Nat)), wpNd C hs K ns e acc → wpNd C hs K' ns e acc
  | [], e, acc, h => ⟨h.1, hk e h.2⟩
  | o :: os, e, acc, h => by
    rw [wpNd] at h ⊢
    refine ⟨h.1, ?_⟩
    have h := h.2
    split at h
    · exact resX_mono h (fun ws ks h1 => ⟨h1.1, wpNd_mono hk os _ _ h1.2⟩)
    · split at h
      · exact ⟨fun hb => resX_mono (h.1 hb) (fun ws ks h1 => ⟨h1.1, wpNd_mono hk os _ _ h1.2⟩), fun hb => skipE_mono (h.2 hb) (fun e h1 => wpNd_mono hk os e _ h1)⟩
      · exact skipE_mono h (fun e h1 => wpNd_mono hk os e _ h1)
      · exact h.elim
theorem wpN_mono : ∀ (c : NCode) (Q Q' : NExit → Env → Prop) (e : Env), (∀ t e, Q t e → Q' t e) → wpN C c Q e → wpN C c Q' e
  | .skip, Q, Q', e, hq, h => hq _ _ h
  | .reg dr hs keep ops, Q, Q', e, hq, h => by
    cases dr with
    | false => exact wpNs_mono (fun e h => hq _ _ h) ops e h
    | true => exact wpNd_mono (fun e h => hq _ _ h) ops e [] h
  | .seq x y, Q, Q', e, hq, h => wpN_mono x _ _ e (fun t e h => by
      cases t with
      | nrm => exact wpN_mono y Q Q' e hq h
      | ext i => exact hq _ _ h
      | ret => exact hq _ _ h) h
  | .cond c x y, Q, Q', e, hq, h => by
    rw [wpN] at h ⊢
    split at h
    · exact ⟨fun hb => wpN_mono x Q Q' e hq (h.1 hb), fun hb => wpN_mono y Q Q' e hq (h.2 hb)⟩
    · exact ⟨wpN_mono x Q Q' e hq h.1, wpN_mono y Q Q' e hq h.2⟩
    · exact h.elim
  | .block id c, Q, Q', e, hq, h => wpN_mono c _ _ e (fun t e h => by
      cases t with
      | nrm => exact hq _ _ h
      | ext i =>
        simp only at h ⊢
        split
        · rename_i hi; rw [if_pos hi] at h; exact hq _ _ h
        · rename_i hi; rw [if_neg hi] at h; exact hq _ _ h
      | ret => exact hq _ _ h) h
  | .loop c, Q, Q', e, hq, h => by
    obtain ⟨S, G, I, m, s0, h1, h2, h3⟩ := h
    refine ⟨S, G, I, m, s0, h1, h2, fun s hs => wpN_mono c _ _ _ (fun t e h => ?_) (h3 s hs)⟩
    cases t with
    | nrm => exact h
    | ext i => exact hq _ _ h
    | ret => exact hq _ _ h
  | .exit id, Q, Q', e, hq, h => hq _ _ h
  | .ret, Q, Q', e, hq, h => hq _ _ h
def outK (id : Nat) (S : Type) (G : S → Env) (J : S → Prop) (Q : NExit → Env → Prop) : NExit → Env → Prop := fun t e => match t with
  | .ext i => if i = id then ∃ s, J s ∧ Weak e (G s) else Q (.ext i) e
  | t => Q t e
variable {Q : NExit → Env → Prop} {e : Env}
@[simp] theorem endW_out_nrm {id S G J u} : endW (outK id S G J Q) u .nrm e = endW Q ⟨⟩ .nrm e := _root_.id rfl
@[simp] theorem endW_out_ret {id S G J u} : endW (outK id S G J Q) u .ret e = endW Q ⟨⟩ .ret e := _root_.id rfl
@[simp] theorem endW_out_ext {id S G J u i} : endW (outK id S G J Q) u (.ext i) e = if i = id then ∃ s, J s ∧ Weak e (G s) else endW Q ⟨⟩ (.ext i) e := _root_.id rfl
theorem loop_out {c : NCode} {u : Tag (c, Q)} (id : Nat) (S : Type) (G : S → Env) (J : S → Prop) (h : loopW C c (outK id S G J Q) ⟨⟩ e) (hr : ∀ s e, J s → Weak e (G s) → endW Q ⟨⟩ (.ext id) e) : loopW C c Q u e :=
  wpN_mono (.loop c) (outK id S G J Q) Q e (fun t e g => by
    cases t with
    | nrm => exact g
    | ret => exact g
    | ext i =>
      simp only [outK] at g
      by_cases hi : i = id
      · rw [if_pos hi] at g
        obtain ⟨s, h1, h2⟩ := g
        rw [hi]
        exact hr s e h1 h2
      · rw [if_neg hi] at g
        exact g) h
def midK (S : Type) (G : S → Env) (J : S → Prop) (Q : NExit → Env → Prop) : NExit → Env → Prop := fun t e => match t with
  | .nrm => ∃ s, J s ∧ Weak e (G s)
  | t => Q t e
@[simp] theorem endW_mid_nrm {S G J u} : endW (midK S G J Q) u .nrm e = ∃ s, J s ∧ Weak e (G s) := _root_.id rfl
@[simp] theorem endW_mid_ret {S G J u} : endW (midK S G J Q) u .ret e = endW Q ⟨⟩ .ret e := _root_.id rfl
@[simp] theorem endW_mid_ext {S G J u i} : endW (midK S G J Q) u (.ext i) e = endW Q ⟨⟩ (.ext i) e := _root_.id rfl
end
@[simp] theorem rowW_map {C : CC} {hs : Option (List Nat)} {K : Env → Prop} {ns : List NOper} {dst : Option Nat} {u : Tag (hs, K, ns)} {e : Env} {R : List Nat} {acc : List (List Nat × List Nat)} {α : Type} [Inhabited α] {n : Nat} {ag : Bool} {p : Pa} {xs : List α} {f : α → List D} {i off : Nat} :
    rowW C hs K ns dst u e R acc n ag p (xs.map f) i off = (i < xs.length ∧ off + n ≤ (f xs[i]!).length ∧ match ag with
        | true => ((((f xs[i]!).drop off).take n).all isV = true → dW C hs K ns dst ⟨⟩ e R acc (.agg (((f xs[i]!).drop off).take n))) ∧
            ((((f xs[i]!).drop off).take n).all isV = false → dW C hs K ns dst ⟨⟩ e R acc (.agx ((((f xs[i]!).drop off).take n).mapIdx fun j c => ldc p i (off + j) c)))
        | false => dW C hs K ns dst ⟨⟩ e R acc (ldc p i off (((f xs[i]!).drop off).headD .any))) := by
  apply propext
  constructor
  · rintro ⟨r, h, h1, h2⟩
    rw [List.getElem?_map, Option.map_eq_some_iff] at h
    obtain ⟨x, hx, rfl⟩ := h
    obtain ⟨hi, rfl⟩ := List.getElem?_eq_some_iff.1 hx
    rw [getElem!_pos xs i hi]
    refine ⟨hi, h1, ?_⟩
    cases ag <;> exact h2
  · rintro ⟨hi, h1, h2⟩
    rw [getElem!_pos xs i hi] at h1 h2
    refine rowW_of (r := f xs[i]) (by rw [List.getElem?_map, List.getElem?_eq_getElem hi]; rfl) h1 ?_
    cases ag <;> exact h2
@[simp] theorem kill1_ptx {b all ks n} : kill1 ((b, all) :: ks) (.ptx n) = if n.any (ment1 b all) then .any else kill1 ks (.ptx n) := by
  have h : kill1 ((b, all) :: ks) (.ptx n) = bif (n.any (ment1 b all) || mentL ks (.ptx n)) then .any else .ptx n := kill1_eq ..
  rw [h, kill1_eq]
  cases n.any (ment1 b all) <;> rfl
@[simp] theorem kill1_tpx {b all ks n} : kill1 ((b, all) :: ks) (.tpx n) = if n.any (ment1 b all) then .any else kill1 ks (.tpx n) := by
  have h : kill1 ((b, all) :: ks) (.tpx n) = bif (n.any (ment1 b all) || mentL ks (.tpx n)) then .any else .tpx n := kill1_eq ..
  rw [h, kill1_eq]
  cases n.any (ment1 b all) <;> rfl
@[simp] theorem ment1_slx {b all n es} : ment1 b all (slx n es) = false := by cases n <;> cases es <;> rfl
@[simp] theorem ment1_ref {b all p k n} : ment1 b all (.ref p k n) = mentP b all p := _root_.id rfl
@[simp] theorem ment1_adr {b all p k n} : ment1 b all (.adr p k n) = mentP b all p := _root_.id rfl
@[simp] theorem ment1_mrf {b all c} : ment1 b all (.mrf c) = (all && c == b) := _root_.id rfl
@[simp] theorem ment1_int {b all k n} : ment1 b all (.int k n) = false := _root_.id rfl
@[simp] theorem ment1_bool {b all n} : ment1 b all (.bool n) = false := _root_.id rfl
@[simp] theorem ment1_str {b all n} : ment1 b all (.str n) = false := _root_.id rfl
@[simp] theorem ment1_nils {b all} : ment1 b all .nils = false := _root_.id rfl
@[simp] theorem ment1_nilp {b all} : ment1 b all .nilp = false := _root_.id rfl
@[simp] theorem ment1_sl {b all n} : ment1 b all (.sl n) = false := _root_.id rfl
@[simp] theorem ment1_ptr {b all n} : ment1 b all (.ptr n) = false := _root_.id rfl
@[simp] theorem ment1_fn {b all g n} : ment1 b all (.fn g n) = false := _root_.id rfl
@[simp] theorem kill1_mrf {b all ks c} : kill1 ((b, all) :: ks) (.mrf c) = if (all && c == b) then .any else kill1 ks (.mrf c) := by
  have h : kill1 ((b, all) :: ks) (.mrf c) = bif ((all && c == b) || mentL ks (.mrf c)) then .any else .mrf c := kill1_eq ..
  rw [h, kill1_eq]
  cases all && c == b <;> rfl
end Go.Gv

namespace Go.Gv
section
variable {C : CC} {hs : Option (List Nat)} {K : Env → Prop} {ns : List NOper} {dst : Option Nat} {u : Tag (hs, K, ns)} {e : Env} {R : List Nat} {acc : List (List Nat × List Nat)}
theorem idxW_some {sz : Nat} {es : List (List D)} {i : Nat} {c : List D} (h : es[i]? = some c) : idxW C hs K ns dst u e R acc sz es i = (c.length = sz ∧ dW C hs K ns dst ⟨⟩ e R acc (.ptr c)) := by
  apply propext
  unfold idxW dW
  rw [h]
  exact ⟨fun ⟨_, h1, h2⟩ => by cases h1; exact h2, fun h2 => ⟨c, rfl, h2⟩⟩
theorem rowW_some {n : Nat} {ag : Bool} {p : Pa} {es : List (List D)} {i off : Nat} {r : List D} (hr : es[i]? = some r) : rowW C hs K ns dst u e R acc n ag p es i off = (off + n ≤ r.length ∧ match ag with
        | true => (((r.drop off).take n).all isV = true → dW C hs K ns dst ⟨⟩ e R acc (.agg ((r.drop off).take n))) ∧
            (((r.drop off).take n).all isV = false → dW C hs K ns dst ⟨⟩ e R acc (.agx (((r.drop off).take n).mapIdx fun j c => ldc p i (off + j) c)))
        | false => dW C hs K ns dst ⟨⟩ e R acc (ldc p i off ((r.drop off).headD .any))) := by
  apply propext
  constructor
  · rintro ⟨r', h, h1, h2⟩
    rw [hr] at h
    cases h
    refine ⟨h1, ?_⟩
    cases ag <;> exact h2
  · rintro ⟨h1, h2⟩
    refine rowW_of hr h1 ?_
    cases ag <;> exact h2
@[simp] theorem idxW_at0 {sz : Nat} {c0 : List D} {es : List (List D)} : idxW C hs K ns dst u e R acc sz (c0 :: es) 0 = (c0.length = sz ∧ dW C hs K ns dst ⟨⟩ e R acc (.ptr c0)) := idxW_some rfl
theorem rowW_at0 {n : Nat} {ag : Bool} {p : Pa} {off : Nat} {c0 : List D} {es : List (List D)} : rowW C hs K ns dst u e R acc n ag p (c0 :: es) 0 off = (off + n ≤ c0.length ∧ match ag with
        | true => (((c0.drop off).take n).all isV = true → dW C hs K ns dst ⟨⟩ e R acc (.agg ((c0.drop off).take n))) ∧
            (((c0.drop off).take n).all isV = false → dW C hs K ns dst ⟨⟩ e R acc (.agx (((c0.drop off).take n).mapIdx fun j c => ldc p 0 (off + j) c)))
        | false => dW C hs K ns dst ⟨⟩ e R acc (ldc p 0 off ((c0.drop off).headD .any))) := rowW_some rfl
@[simp] theorem idxW_at1 {sz : Nat} {c0 c1 : List D} {es : List (List D)} : idxW C hs K ns dst u e R acc sz (c0 :: c1 :: es) 1 = (c1.length = sz ∧ dW C hs K ns dst ⟨⟩ e R acc (.ptr c1)) := idxW_some rfl
theorem rowW_at1 {n : Nat} {ag : Bool} {p : Pa} {off : Nat} {c0 c1 : List D} {es : List (List D)} : rowW C hs K ns dst u e R acc n ag p (c0 :: c1 :: es) 1 off = (off + n ≤ c1.length ∧ match ag with
        | true => (((c1.drop off).take n).all isV = true → dW C hs K ns dst ⟨⟩ e R acc (.agg ((c1.drop off).take n))) ∧
            (((c1.drop off).take n).all isV = false → dW C hs K ns dst ⟨⟩ e R acc (.agx (((c1.drop off).take n).mapIdx fun j c => ldc p 1 (off + j) c)))
        | false => dW C hs K ns dst ⟨⟩ e R acc (ldc p 1 off ((c1.drop off).headD .any))) := rowW_some rfl
@[simp] theorem idxW_at2 {sz : Nat} {c0 c1 c2 : List D} {es : List (List D)} : idxW C hs K ns dst u e R acc sz (c0 :: c1 :: c2 :: es) 2 = (c2.length = sz ∧ dW C hs K ns dst ⟨⟩ e R acc (.ptr c2)) := idxW_some rfl
theorem rowW_at2 {n : Nat} {ag : Bool} {p : Pa} {off : Nat} {c0 c1 c2 : List D} {es : List (List D)} : rowW C hs K ns dst u e R acc n ag p (c0 :: c1 :: c2 :: es) 2 off = (off + n ≤ c2.length ∧ match ag with
        | true => (((c2.drop off).take n).all isV = true → dW C hs K ns dst ⟨⟩ e R acc (.agg ((c2.drop off).take n))) ∧
            (((c2.drop off).take n).all isV = false → dW C hs K ns dst ⟨⟩ e R acc (.agx (((c2.drop off).take n).mapIdx fun j c => ldc p 2 (off + j) c)))
        | false => dW C hs K ns dst ⟨⟩ e R acc (ldc p 2 off ((c2.drop off).headD .any))) := rowW_some rfl
@[simp] theorem idxW_at3 {sz : Nat} {c0 c1 c2 c3 : List D} {es : List (List D)} : idxW C hs K ns dst u e R acc sz (c0 :: c1 :: c2 :: c3 :: es) 3 = (c3.length = sz ∧ dW C hs K ns dst ⟨⟩ e R acc (.ptr c3)) := idxW_some rfl
theorem rowW_at3 {n : Nat} {ag : Bool} {p : Pa} {off : Nat} {c0 c1 c2 c3 : List D} {es : List (List D)} : rowW C hs K ns dst u e R acc n ag p (c0 :: c1 :: c2 :: c3 :: es) 3 off = (off + n ≤ c3.length ∧ match ag with
        | true => (((c3.drop off).take n).all isV = true → dW C hs K ns dst ⟨⟩ e R acc (.agg ((c3.drop off).take n))) ∧
            (((c3.drop off).take n).all isV = false → dW C hs K ns dst ⟨⟩ e R acc (.agx (((c3.drop off).take n).mapIdx fun j c => ldc p 3 (off + j) c)))
        | false => dW C hs K ns dst ⟨⟩ e R acc (ldc p 3 off ((c3.drop off).headD .any))) := rowW_some rfl
@[simp] theorem idxW_at4 {sz : Nat} {c0 c1 c2 c3 c4 : List D} {es : List (List D)} : idxW C hs K ns dst u e R acc sz (c0 :: c1 :: c2 :: c3 :: c4 :: es) 4 = (c4.length = sz ∧ dW C hs K ns dst ⟨⟩ e R acc (.ptr c4)) := idxW_some rfl
theorem rowW_at4 {n : Nat} {ag : Bool} {p : Pa} {off : Nat} {c0 c1 c2 c3 c4 : List D} {es : List (List D)} : rowW C hs K ns dst u e R acc n ag p (c0 :: c1 :: c2 :: c3 :: c4 :: es) 4 off = (off + n ≤ c4.length ∧ match ag with
        | true => (((c4.drop off).take n).all isV = true → dW C hs K ns dst ⟨⟩ e R acc (.agg ((c4.drop off).take n))) ∧
            (((c4.drop off).take n).all isV = false → dW C hs K ns dst ⟨⟩ e R acc (.agx (((c4.drop off).take n).mapIdx fun j c => ldc p 4 (off + j) c)))
        | false => dW C hs K ns dst ⟨⟩ e R acc (ldc p 4 off ((c4.drop off).headD .any))) := rowW_some rfl
attribute [simp] rowW_at0 rowW_at1 rowW_at2 rowW_at3 rowW_at4
end
end Go.Gv

namespace Go.Gv
section
variable {C : CC} {hs : Option (List Nat)} {K : Env → Prop} {ns : List NOper} {dst : Option Nat} {u : Tag (hs, K, ns)} {e : Env} {R : List Nat} {acc : List (List Nat × List Nat)}
@[simp] theorem idxW_at5 {sz : Nat} {c0 c1 c2 c3 c4 c5 : List D} {es : List (List D)} : idxW C hs K ns dst u e R acc sz (c0 :: c1 :: c2 :: c3 :: c4 :: c5 :: es) 5 = (c5.length = sz ∧ dW C hs K ns dst ⟨⟩ e R acc (.ptr c5)) := idxW_some rfl
@[simp] theorem rowW_at5 {n : Nat} {ag : Bool} {p : Pa} {off : Nat} {c0 c1 c2 c3 c4 c5 : List D} {es : List (List D)} : rowW C hs K ns dst u e R acc n ag p (c0 :: c1 :: c2 :: c3 :: c4 :: c5 :: es) 5 off = (off + n ≤ c5.length ∧ match ag with
        | true => (((c5.drop off).take n).all isV = true → dW C hs K ns dst ⟨⟩ e R acc (.agg ((c5.drop off).take n))) ∧
            (((c5.drop off).take n).all isV = false → dW C hs K ns dst ⟨⟩ e R acc (.agx (((c5.drop off).take n).mapIdx fun j c => ldc p 5 (off + j) c)))
        | false => dW C hs K ns dst ⟨⟩ e R acc (ldc p 5 off ((c5.drop off).headD .any))) := rowW_some rfl
@[simp] theorem idxW_at6 {sz : Nat} {c0 c1 c2 c3 c4 c5 c6 : List D} {es : List (List D)} : idxW C hs K ns dst u e R acc sz (c0 :: c1 :: c2 :: c3 :: c4 :: c5 :: c6 :: es) 6 = (c6.length = sz ∧ dW C hs K ns dst ⟨⟩ e R acc (.ptr c6)) := idxW_some rfl
@[simp] theorem rowW_at6 {n : Nat} {ag : Bool} {p : Pa} {off : Nat} {c0 c1 c2 c3 c4 c5 c6 : List D} {es : List (List D)} : rowW C hs K ns dst u e R acc n ag p (c0 :: c1 :: c2 :: c3 :: c4 :: c5 :: c6 :: es) 6 off = (off + n ≤ c6.length ∧ match ag with
        | true => (((c6.drop off).take n).all isV = true → dW C hs K ns dst ⟨⟩ e R acc (.agg ((c6.drop off).take n))) ∧
            (((c6.drop off).take n).all isV = false → dW C hs K ns dst ⟨⟩ e R acc (.agx (((c6.drop off).take n).mapIdx fun j c => ldc p 6 (off + j) c)))
        | false => dW C hs K ns dst ⟨⟩ e R acc (ldc p 6 off ((c6.drop off).headD .any))) := rowW_some rfl
@[simp] theorem idxW_at7 {sz : Nat} {c0 c1 c2 c3 c4 c5 c6 c7 : List D} {es : List (List D)} : idxW C hs K ns dst u e R acc sz (c0 :: c1 :: c2 :: c3 :: c4 :: c5 :: c6 :: c7 :: es) 7 = (c7.length = sz ∧ dW C hs K ns dst ⟨⟩ e R acc (.ptr c7)) := idxW_some rfl
@[simp] theorem rowW_at7 {n : Nat} {ag : Bool} {p : Pa} {off : Nat} {c0 c1 c2 c3 c4 c5 c6 c7 : List D} {es : List (List D)} : rowW C hs K ns dst u e R acc n ag p (c0 :: c1 :: c2 :: c3 :: c4 :: c5 :: c6 :: c7 :: es) 7 off = (off + n ≤ c7.length ∧ match ag with
        | true => (((c7.drop off).take n).all isV = true → dW C hs K ns dst ⟨⟩ e R acc (.agg ((c7.drop off).take n))) ∧
            (((c7.drop off).take n).all isV = false → dW C hs K ns dst ⟨⟩ e R acc (.agx (((c7.drop off).take n).mapIdx fun j c => ldc p 7 (off + j) c)))
        | false => dW C hs K ns dst ⟨⟩ e R acc (ldc p 7 off ((c7.drop off).headD .any))) := rowW_some rfl
end
end Go.Gv

set_option linter.unusedSimpArgs false
namespace Go.Gv
theorem rep_map {α : Type} (n : Nat) (x : α) : List.replicate n x = (List.range n).map fun _ => x := by simp [List.map_const']
theorem intL_cast (l : List Nat) : intL l = (l.map fun k : Nat => (k : Int)).map fun n => [.int .i64 n] := by simp [intL]
theorem ints_C1 {l : List Int} : ∀ e ∈ (l.map fun n => [D.int .i64 n]), e.length = 1 ∧ ∀ c ∈ e, isC1 c = true := by
  intro e he
  simp only [List.mem_map] at he
  obtain ⟨k, _, rfl⟩ := he
  simp [isC1]
theorem ints_F1 {l : List Int} : ∀ e ∈ (l.map fun n => [D.int .i64 n]), e.length = 1 ∧ ∀ c ∈ e, isF1 c = true := by
  intro e he
  simp only [List.mem_map] at he
  obtain ⟨k, _, rfl⟩ := he
  simp [isF1]
def ndD (l : List Nat) : D := .sl (intL l)
def nxtD (n : Nat) (es : List Edg) : D := .sl ((List.range n).map fun v => [ndD (nxt n es v)])
def rowA (n : Nat) (es : List Edg) (j : Nat) : List (List D) := (List.range n).map fun v => [.own 1 (intL (tgs (es.take j) v))]
def rowC (n : Nat) (es : List Edg) (j : Nat) : List (List D) := (List.range n).map fun v => [.own 1 (intL (if v < j then nxt n es v else tgs es v))]
theorem intL_len (l : List Nat) : (intL l).length = l.length := by simp [intL]
theorem intL_take (l : List Nat) : (intL l).take l.length = intL l := by rw [← intL_len l]; exact List.take_length
theorem intL_app (l : List Nat) (k : Nat) : intL l ++ [[.int .i64 (k : Int)]] = intL (l ++ [k]) := by simp [intL]
theorem intL_C1 {l : List Nat} : ∀ e ∈ intL l, e.length = 1 ∧ ∀ c ∈ e, isC1 c = true := by
  intro e he
  simp only [intL, List.mem_map] at he
  obtain ⟨k, _, rfl⟩ := he
  simp [isC1]
theorem intL_F1 {l : List Nat} : ∀ e ∈ intL l, e.length = 1 ∧ ∀ c ∈ e, isF1 c = true := by
  intro e he
  simp only [intL, List.mem_map] at he
  obtain ⟨k, _, rfl⟩ := he
  simp [isF1]
variable {C : CC} (hC : Closed prog C)
include hC
theorem next_c (hS : SlC C) {b : Bool} {n : Nat} {es : List Edg} (hn : n ≤ 300) (he : es.length ≤ 1000) (hg : inG n es) : C 517 [.int .i64 n, slx b (es.map edK)] (nxtD n es) [] := by
  refine start hC (nf := N517_digraph_next) rfl rfl ?_
  simp [N517_digraph_next]
  refine ⟨by omega, ?_⟩
  refine loop_of Nat (fun j => [(5, .ref (.r 10080) 0 n), (10080, .blk 1 (rowA n es j)), (11, slx b (es.map edK)), (12, .int .i64 es.length), (13, .int .i64 j)]) (fun j => j ≤ es.length) (fun j => es.length - j) 0 (by simp) (by simp [rowA, tgs, intL, rep_map]) ?_
  rintro j hj
  simp
  refine brB_of (fun h => ?_) (fun h => ?_) <;> simp [h] <;> simp at h
  · have hw : IntKind.wrap .i64 ((j : Int) + 1) = ((j + 1 : Nat) : Int) := wrap_i64 (by omega) (by omega)
    have hin := hg _ (List.getElem_mem h)
    have hr : (rowA n es j)[es[j].1]? = some [.own 1 (intL (tgs (es.take j) es[j].1))] := by simp [rowA, hin.1]
    have hlt := tgs_len (es.take j) es[j].1
    have hb : (tgs (es.take j) es[j].1).length ≤ 1000 := by simp at hlt; omega
    have hrl : (rowA n es j).length = n := by simp [rowA]
    have hr2 : es[j].1 < (rowA n es j).length := by omega
    simp [h, edK, knD, rowW_some hr, hin, hr, intL_len]
    refine ⟨by omega, ?_⟩
    simp only [intL_take, intL_app]
    have e1 : ∀ e, e ∈ intL (tgs (es.take j) es[j].1) ∨ e = [.int .i64 (es[j].2 : Int)] → ∀ c ∈ e, isC1 c = true := by
      rintro e (h1 | rfl)
      · exact (intL_C1 e h1).2
      · simp [isC1]
    have e2 : (((rowA n es j).set es[j].1 [.any]).set es[j].1 [.own 1 (intL (tgs (es.take j) es[j].1 ++ [es[j].2]))]) = rowA n es (j + 1) := by
      rw [List.set_set]
      unfold rowA
      rw [set_rm]
      apply List.map_congr_left
      intro v _
      rw [tgs_take h]
      by_cases e : v = es[j].1
      · subst e; simp
      · rw [if_neg e, if_neg (Ne.symm e), List.append_nil]
    refine ⟨e1, ?_⟩
    simp [hr2, e2]
    refine ⟨indW_of (by decide +kernel), ?_⟩
    simp [hw]
    refine ⟨j + 1, by omega, by omega, ?_, by simp⟩
    simp only [intL_take, intL_app]
    rw [← e2, List.set_set]
  · have e0 : rowA n es j = rowC n es 0 := by
      unfold rowA rowC
      rw [List.take_of_length_le h]
      simp
    rw [e0]
    refine loop_of Nat (fun j => [(5, .ref (.r 10080) 0 n), (10080, .blk 1 (rowC n es j)), (32, .int .i64 n), (33, .int .i64 j)]) (fun j => j ≤ n) (fun j => n - j) 0 (by simp) (by simp) ?_
    clear e0 h hj j
    rintro j hj
    simp
    refine brB_of (fun h => ?_) (fun h => ?_) <;> simp [h] <;> simp at h
    · have hw : IntKind.wrap .i64 ((j : Int) + 1) = ((j + 1 : Nat) : Int) := wrap_i64 (by omega) (by omega)
      have hr : (rowC n es j)[j]? = some [.own 1 (intL (tgs es j))] := by simp [rowC, h]
      have hl := tgs_len es j
      simp [h, rowW_some hr, hr, intL_len]
      have ks := hS.sort ((tgs es j).map fun k : Nat => (k : Int)) (by simp; omega)
      have kc := hS.compact (((tgs es j).map fun k : Nat => (k : Int)).mergeSort fun x y => decide (x ≤ y)) (by simp [List.length_mergeSort]; omega)
      rw [compact_sort hg, ← intL_cast] at kc
      rw [← intL_cast] at ks
      have hsl : (((tgs es j).map fun k : Nat => (k : Int)).mergeSort fun x y => decide (x ≤ y)).length = (tgs es j).length := by simp [List.length_mergeSort]
      obtain ⟨zs, hz⟩ : ∃ zs, zs = ((tgs es j).map fun k : Nat => (k : Int)).mergeSort fun x y => decide (x ≤ y) := ⟨_, rfl⟩
      rw [← hz] at ks kc hsl
      have hjl : j < (rowC n es j).length := by simp [rowC, h]
      have e1 : (((rowC n es j).set j [.own 1 (zs.map fun n => [.int .i64 n])]).set j [.any]).set j [.own 1 (intL (nxt n es j))] = rowC n es (j + 1) := by
        rw [List.set_set, List.set_set]
        unfold rowC
        rw [set_rm]
        apply List.map_congr_left
        intro v _
        by_cases e : v = j
        · subst e; simp
        · rw [if_neg e]
          by_cases e2 : v < j
          · rw [if_pos e2, if_pos (by omega)]
          · rw [if_neg e2, if_neg (by omega)]
      refine cellW_of ks (by rw [List.length_map, hsl, intL_len]) ints_C1 ?_
      have hset : ∀ x, ((rowC n es j).set j x)[j]? = some x := fun x => by simp [hjl]
      simp [hr, h, rowW_some (hset _), hset]
      refine ⟨fun e he => (ints_F1 e (List.mem_of_mem_take he)).2, ?_⟩
      have e3 : (zs.map fun n => [D.int .i64 n]).take zs.length = zs.map fun n => [D.int .i64 n] := List.take_of_length_le (by simp)
      rw [e3]
      refine eatW_of kc intL_F1 ?_
      simp [hr, h, rowW_some (hset _), hset]
      rw [List.set_set, List.set_set] at e1
      exact ⟨fun e he => (intL_C1 e he).2, j + 1, by omega, by omega, e1, hw⟩
    · have e : j = n := by omega
      subst e
      simp [rowC]
      unfold nxtD
      rw [List.take_of_length_le (by simp)]
      congr 1
      apply List.map_congr_left
      intro v hv
      have : v < j := by simpa using hv
      simp [this, cellV, ndD]
end Go.Gv

set_option linter.unusedSimpArgs false
namespace Go.Gv
open Go.Lib
theorem maskN (a : Nat) (ha : a < 18446744073709551616) : bits .and .u64 (a : Int) 4294967295 = ((a % 4294967296 : Nat) : Int) := by
  have h := bits_and_u64_nat a 4294967295 ha (by omega)
  have e : a &&& 4294967295 = a % 4294967296 := Nat.and_two_pow_sub_one_eq_mod a 32
  rw [e] at h
  exact h
theorem shrN (a k : Nat) : Int.fdiv (a : Int) (2 ^ k) = ((a / 2 ^ k : Nat) : Int) := by
  rw [Int.fdiv_eq_ediv_of_nonneg _ (by exact Int.pow_nonneg (by omega))]
  norm_cast
theorem shr32 (a : Nat) : Int.fdiv (a : Int) (2 ^ min 32 IntKind.u64.bits) = ((a / 4294967296 : Nat) : Int) := shrN a 32
theorem mulN (a b : Nat) : (a : Int) * (b : Int) = ((a * b : Nat) : Int) := (Int.natCast_mul a b).symm
theorem addN (a b : Nat) : (a : Int) + (b : Int) = ((a + b : Nat) : Int) := (Int.natCast_add a b).symm
theorem wrapN (a : Nat) (ha : a < 18446744073709551616) : IntKind.u64.wrap (a : Int) = (a : Int) := by
  have e1 : IntKind.u64.signed = false := rfl
  have e3 : (2 ^ IntKind.u64.bits : Int) = 18446744073709551616 := rfl
  unfold IntKind.wrap
  simp only [e1, e3, Bool.false_and]
  simp
  omega
theorem wrapM (a : Nat) : IntKind.u64.wrap (a : Int) = ((a % 18446744073709551616 : Nat) : Int) := by
  have e1 : IntKind.u64.signed = false := rfl
  have e3 : (2 ^ IntKind.u64.bits : Int) = 18446744073709551616 := rfl
  unfold IntKind.wrap
  simp only [e1, e3, Bool.false_and]
  simp
variable {C : CC} (hC : Closed prog C)
include hC
theorem Mul64_c (x y : Nat) (hx : x < 18446744073709551616) (hy : y < 18446744073709551616) : C 91 [.int .u64 x, .int .u64 y] (.tup [.int .u64 ((x * y / 18446744073709551616 : Nat) : Int), .int .u64 ((x * y % 18446744073709551616 : Nat) : Int)]) [] := by
  refine start hC (nf := N91_math_bits_Mul64) rfl rfl ?_
  obtain ⟨bd, bt, bw, hhi⟩ := Lib.mul64_hi x y hx hy
  have ba := Lib.half_mul_le (a := x / 4294967296) (b := y / 4294967296) (by omega) (by omega)
  have bb := Lib.half_mul_le (a := x / 4294967296) (b := y % 4294967296) (by omega) (by omega)
  have bc := Lib.half_mul_le (a := x % 4294967296) (b := y / 4294967296) (by omega) (by omega)
  have ba' : x / 4294967296 * (y / 4294967296) < 18446744073709551616 := by omega
  have bb' : x / 4294967296 * (y % 4294967296) < 18446744073709551616 := by omega
  have bc' : x % 4294967296 * (y / 4294967296) < 18446744073709551616 := by omega
  have bh1 : x / 4294967296 * (y / 4294967296) + (x / 4294967296 * (y % 4294967296) + x % 4294967296 * (y % 4294967296) / 4294967296) / 4294967296 < 18446744073709551616 := by omega
  have bh : x / 4294967296 * (y / 4294967296) + (x / 4294967296 * (y % 4294967296) + x % 4294967296 * (y % 4294967296) / 4294967296) / 4294967296 + ((x / 4294967296 * (y % 4294967296) + x % 4294967296 * (y % 4294967296) / 4294967296) % 4294967296 + x % 4294967296 * (y / 4294967296)) / 4294967296 < 18446744073709551616 := by omega
  simp [N91_math_bits_Mul64]
  simp only [maskN x hx, maskN y hy, shr32, mulN, addN, wrapN _ bd, wrapN _ bb', wrapN _ bt, maskN _ bt, wrapN _ bc', wrapN _ bw, wrapN _ ba', wrapN _ bh1, wrapN _ bh, wrapM (x * y)]
  rw [hhi]
  exact ⟨by omega, by omega⟩
end Go.Gv

set_option linter.unusedSimpArgs false
namespace Go.Gv
theorem shr16 (a : Nat) : Int.fdiv (a : Int) (2 ^ min 16 IntKind.u64.bits) = ((a / 65536 : Nat) : Int) := shrN a 16
theorem shr8 (a : Nat) : Int.fdiv (a : Int) (2 ^ min 8 IntKind.u64.bits) = ((a / 256 : Nat) : Int) := shrN a 8
theorem wrap8 (a : Nat) (h : a < 256) : IntKind.u8.wrap (a : Int) = (a : Int) := by
  have e1 : IntKind.u8.signed = false := rfl
  have e3 : (2 ^ IntKind.u8.bits : Int) = 256 := rfl
  unfold IntKind.wrap
  simp only [e1, e3, Bool.false_and]
  simp
  omega
theorem len8t_spec : S1.length = 256 ∧ ∀ n : Fin 256, S1[n.val]?.getD 0 = UInt8.ofNat (bitLen n.val) ∧ bitLen n.val ≤ 8 := by decide +kernel
theorem len8_fin {x n z : Nat} {m : Int} (hz : z < 256) (hm : m = n) (hn : n ≤ 56) (h : n + bitLen z = bitLen x) : 0 ≤ IntKind.u8.wrap (z : Int) ∧ (IntKind.u8.wrap (z : Int)).toNat < S1.length ∧ IntKind.i64.wrap (m + IntKind.i64.wrap ↑(S1[(IntKind.u8.wrap (z : Int)).toNat]?.getD default).toNat) = (bitLen x : Int) := by
  rw [wrap8 z hz]
  obtain ⟨h1, h2⟩ := len8t_spec
  obtain ⟨h3, h4⟩ := h2 ⟨z, hz⟩
  have e : (S1[(z : Int).toNat]?.getD default).toNat = bitLen z := by
    show (S1[z]?.getD 0).toNat = bitLen z
    simp only at h3 h4
    rw [h3, UInt8.toNat_ofNat']
    omega
  simp only at h4
  rw [e]
  have e2 : IntKind.i64.wrap (bitLen z : Int) = (bitLen z : Int) := wrap_i64 rfl (by omega)
  refine ⟨by omega, by omega, ?_⟩
  rw [e2, hm]
  exact wrap_i64 (by omega) (by omega)
variable {C : CC} (hC : Closed prog C)
include hC
theorem Len64_c (x : Nat) (hx : x < 18446744073709551616) : C 111 [.int .u64 x] (.int .i64 (bitLen x)) [] := by
  refine start hC (nf := N111_math_bits_Len64) rfl rfl ?_
  have key : ∀ (b z : Nat), 2 ^ b ≤ z → bitLen z = b + bitLen (z / 2 ^ b) := fun b z h => bitLen_shift z b (by
    have := Nat.div_pos h (Nat.two_pow_pos b)
    omega)
  simp [N111_math_bits_Len64]
  refine brB_of (fun h1 => ?_) (fun h1 => ?_) <;> simp at h1
  · obtain ⟨y, hy⟩ : ∃ y : Nat, y = x / 4294967296 := ⟨_, rfl⟩
    have e1 : Int.fdiv (x : Int) (2 ^ min 32 IntKind.u64.bits) = (y : Int) := by rw [shr32, hy]
    have k1 := key 32 x (by omega)
    simp [e1]
    refine brB_of (fun h2 => ?_) (fun h2 => ?_) <;> simp at h2
    · obtain ⟨z, hz⟩ : ∃ z : Nat, z = y / 65536 := ⟨_, rfl⟩
      have e2 : Int.fdiv (y : Int) (2 ^ min 16 IntKind.u64.bits) = (z : Int) := by rw [shr16, hz]
      have k2 := key 16 y (by omega)
      simp [e2]
      refine brB_of (fun h3 => ?_) (fun h3 => ?_) <;> simp at h3
      · obtain ⟨v, hv⟩ : ∃ v : Nat, v = z / 256 := ⟨_, rfl⟩
        have e3 : Int.fdiv (z : Int) (2 ^ min 8 IntKind.u64.bits) = (v : Int) := by rw [shr8, hv]
        have k3 := key 8 z (by omega)
        simp [e3]
        refine len8_fin (n := 56) (by omega) ?_ (by omega) ?_
        · decide
        · simp only [Nat.reducePow] at k1 k2 k3
          rw [← hy] at k1; rw [← hz] at k2; rw [← hv] at k3; omega
      · simp
        refine len8_fin (n := 48) (by omega) ?_ (by omega) ?_
        · decide
        · simp only [Nat.reducePow] at k1 k2
          rw [← hy] at k1; rw [← hz] at k2; omega
    · simp
      refine brB_of (fun h3 => ?_) (fun h3 => ?_) <;> simp at h3
      · obtain ⟨v, hv⟩ : ∃ v : Nat, v = y / 256 := ⟨_, rfl⟩
        have e3 : Int.fdiv (y : Int) (2 ^ min 8 IntKind.u64.bits) = (v : Int) := by rw [shr8, hv]
        have k3 := key 8 y (by omega)
        simp [e3]
        refine len8_fin (n := 40) (by omega) ?_ (by omega) ?_
        · decide
        · simp only [Nat.reducePow] at k1 k3
          rw [← hy] at k1; rw [← hv] at k3; omega
      · simp
        refine len8_fin (n := 32) (by omega) ?_ (by omega) ?_
        · decide
        · simp only [Nat.reducePow] at k1
          rw [← hy] at k1; omega
  · simp
    refine brB_of (fun h2 => ?_) (fun h2 => ?_) <;> simp at h2
    · obtain ⟨z, hz⟩ : ∃ z : Nat, z = x / 65536 := ⟨_, rfl⟩
      have e2 : Int.fdiv (x : Int) (2 ^ min 16 IntKind.u64.bits) = (z : Int) := by rw [shr16, hz]
      have k2 := key 16 x (by omega)
      simp [e2]
      refine brB_of (fun h3 => ?_) (fun h3 => ?_) <;> simp at h3
      · obtain ⟨v, hv⟩ : ∃ v : Nat, v = z / 256 := ⟨_, rfl⟩
        have e3 : Int.fdiv (z : Int) (2 ^ min 8 IntKind.u64.bits) = (v : Int) := by rw [shr8, hv]
        have k3 := key 8 z (by omega)
        simp [e3]
        refine len8_fin (n := 24) (by omega) ?_ (by omega) ?_
        · decide
        · simp only [Nat.reducePow] at k2 k3
          rw [← hz] at k2; rw [← hv] at k3; omega
      · simp
        refine len8_fin (n := 16) (by omega) ?_ (by omega) ?_
        · decide
        · simp only [Nat.reducePow] at k2
          rw [← hz] at k2; omega
    · simp
      refine brB_of (fun h3 => ?_) (fun h3 => ?_) <;> simp at h3
      · obtain ⟨v, hv⟩ : ∃ v : Nat, v = x / 256 := ⟨_, rfl⟩
        have e3 : Int.fdiv (x : Int) (2 ^ min 8 IntKind.u64.bits) = (v : Int) := by rw [shr8, hv]
        have k3 := key 8 x (by omega)
        simp [e3]
        refine len8_fin (n := 8) (by omega) ?_ (by omega) ?_
        · decide
        · simp only [Nat.reducePow] at k3
          rw [← hv] at k3; omega
      · simp
        have := len8_fin (x := x) (n := 0) (m := 0) (z := x) (by omega) rfl (by omega) (by omega)
        simpa using this
theorem LeadingZeros64_c (x : Nat) (hx : x < 18446744073709551616) : C 102 [.int .u64 x] (.int .i64 ((64 - bitLen x : Nat) : Int)) [] := by
  have hb : bitLen x ≤ 64 := by
    unfold bitLen
    split
    · omega
    · rename_i h
      have := (Nat.log2_lt h).2 (show x < 2 ^ 64 by omega)
      omega
  refine start hC (nf := N102_math_bits_LeadingZeros64) rfl rfl ?_
  simp [N102_math_bits_LeadingZeros64]
  refine callW_of (Len64_c hC x hx) (.inl rfl) ?_
  have e : IntKind.wrap .i64 (64 - (bitLen x : Int)) = ((64 - bitLen x : Nat) : Int) := wrap_i64 (by omega) (by omega)
  simp [e]
end Go.Gv

namespace Go.Gv
structure DvI (u d a b q r : Nat) : Prop where
  sum : q * a + r = u
  ge : (u * 4294967296 + d) / (a * 4294967296 + b) ≤ q
  rlt : r < 4294967296
  qle : q ≤ 4294967297
section
variable {u d a b q r : Nat}
theorem Dv.mul (h : q * a + r = u) : q * (a * 4294967296 + b) + r * 4294967296 = u * 4294967296 + q * b := by
  subst h
  rw [Nat.mul_add, ← Nat.mul_assoc, Nat.add_mul]
  omega
theorem Dv.lt (_ : 0 < a) (hu : u < a * 4294967296 + b) (hd : d < 4294967296) : (u * 4294967296 + d) / (a * 4294967296 + b) < 4294967296 := by
  rw [Nat.div_lt_iff_lt_mul (by omega)]
  have : (u + 1) * 4294967296 ≤ (a * 4294967296 + b) * 4294967296 := Nat.mul_le_mul_right _ hu
  omega
theorem DvI.first (ha : 2147483648 ≤ a) (ha2 : a < 4294967296) (hb : b < 4294967296) (hu : u < a * 4294967296 + b) (hd : d < 4294967296) : DvI u d a b (u / a) (u % a) where
  sum := by rw [Nat.mul_comm]; exact Nat.div_add_mod u a
  rlt := by have := Nat.mod_lt u (show 0 < a by omega); omega
  ge := by
    rw [Nat.le_div_iff_mul_le (by omega)]
    have h := Nat.div_mul_le_self (u * 4294967296 + d) (a * 4294967296 + b)
    generalize (u * 4294967296 + d) / (a * 4294967296 + b) = Q at *
    rw [Nat.mul_add, ← Nat.mul_assoc] at h
    generalize Q * b = z at *
    generalize Q * a = x at *
    omega
  qle := by
    have : u / a < 4294967298 := by
      rw [Nat.div_lt_iff_lt_mul (by omega)]
      omega
    omega
theorem DvI.more (h : DvI u d a b q r) (ha : 0 < a) (hu : u < a * 4294967296 + b) (hd : d < 4294967296) (hc : 4294967296 ≤ q ∨ 4294967296 * r + d < q * b) : (u * 4294967296 + d) / (a * 4294967296 + b) + 1 ≤ q := by
  rcases hc with hc | hc
  · have := Dv.lt (d := d) ha hu hd
    omega
  · have h1 := Dv.mul (b := b) h.sum
    have : (u * 4294967296 + d) / (a * 4294967296 + b) < q := by
      rw [Nat.div_lt_iff_lt_mul (by omega)]
      generalize q * (a * 4294967296 + b) = z at *
      generalize q * b = x at *
      omega
    omega
theorem DvI.done (h : DvI u d a b q r) (ha : 0 < a) (hc : q * b ≤ 4294967296 * r + d) : q = (u * 4294967296 + d) / (a * 4294967296 + b) := by
  have h1 := Dv.mul (b := b) h.sum
  have h2 := h.ge
  have : q ≤ (u * 4294967296 + d) / (a * 4294967296 + b) := by
    rw [Nat.le_div_iff_mul_le (by omega)]
    generalize q * (a * 4294967296 + b) = z at *
    generalize q * b = x at *
    omega
  omega
theorem DvI.next (h : DvI u d a b q r) (ha : 0 < a) (hu : u < a * 4294967296 + b) (hd : d < 4294967296) (hc : 4294967296 ≤ q ∨ 4294967296 * r + d < q * b) :
    1 ≤ q ∧ (q - 1) * a + (r + a) = u ∧ (u * 4294967296 + d) / (a * 4294967296 + b) ≤ q - 1 ∧ q - 1 ≤ 4294967296 := by
  have h1 := h.more ha hu hd hc
  have h2 := h.qle
  have h3 := h.sum
  generalize (u * 4294967296 + d) / (a * 4294967296 + b) = Q at *
  obtain ⟨q', rfl⟩ : ∃ q', q = q' + 1 := ⟨q - 1, by omega⟩
  refine ⟨by omega, ?_, by omega, by omega⟩
  rw [Nat.add_mul] at h3
  simp only [Nat.add_sub_cancel]
  omega
theorem Dv.stop (hs : q * a + r = u) (hg : (u * 4294967296 + d) / (a * 4294967296 + b) ≤ q) (hq : q ≤ 4294967296) (ha : 0 < a) (hb : b < 4294967296) (hr : 4294967296 ≤ r) : q = (u * 4294967296 + d) / (a * 4294967296 + b) := by
  have h1 := Dv.mul (b := b) hs
  have h3 : q * b ≤ 4294967296 * 4294967295 := Nat.mul_le_mul hq (by omega)
  have : q ≤ (u * 4294967296 + d) / (a * 4294967296 + b) := by
    rw [Nat.le_div_iff_mul_le (by omega)]
    generalize q * (a * 4294967296 + b) = z at *
    generalize q * b = x at *
    omega
  omega
theorem DvI.bnd (h : DvI u d a b q r) (hb : b < 4294967296) : q * b < 18446744073709551616 := by
  have := Nat.mul_le_mul h.qle (show b ≤ 4294967295 by omega)
  omega
end
theorem dv_all {N y S A K un0 y' : Nat} (hy : 0 < y) (hs : 0 < S) (hy' : y' = y * S) (hn : N * S = A * K + un0) :
    A / y' * K + (A % y' * K + un0) / y' = N / y ∧ (A % y' * K + un0) % y' / S = N % y := by
  have hyp : 0 < y' := by rw [hy']; exact Nat.mul_pos hy hs
  have e1 := Nat.div_add_mod A y'
  have e2 := Nat.div_add_mod (A % y' * K + un0) y'
  have l2 := Nat.mod_lt (A % y' * K + un0) hyp
  have tot : y' * (A / y' * K + (A % y' * K + un0) / y') + (A % y' * K + un0) % y' = N * S := by
    rw [hn, Nat.mul_add, Nat.add_assoc, e2, ← Nat.mul_assoc, ← Nat.add_assoc, ← Nat.add_mul, e1]
  have hq : N * S / y' = A / y' * K + (A % y' * K + un0) / y' := by
    rw [← tot, Nat.mul_add_div hyp, Nat.div_eq_of_lt l2, Nat.add_zero]
  have hr : N * S % y' = (A % y' * K + un0) % y' := by
    rw [← tot, Nat.mul_add_mod, Nat.mod_eq_of_lt l2]
  rw [hy', Nat.mul_div_mul_right _ _ hs] at hq
  rw [hy', Nat.mul_mod_mul_right] at hr
  rw [hy'] at *
  exact ⟨hq.symm, by rw [← hr, Nat.mul_div_cancel _ hs]⟩
end Go.Gv

set_option linter.unusedSimpArgs false
namespace Go.Gv
theorem tdivN (a b : Nat) : Int.tdiv (a : Int) (b : Int) = ((a / b : Nat) : Int) := by
  rw [Int.tdiv_eq_ediv_of_nonneg (by omega)]; norm_cast
theorem tmodN (a b : Nat) : Int.tmod (a : Int) (b : Int) = ((a % b : Nat) : Int) := by
  rw [Int.tmod_eq_emod_of_nonneg (by omega)]; norm_cast
theorem wrapU (a : Int) : IntKind.u64.wrap a = a % 18446744073709551616 := by
  have e1 : IntKind.u64.signed = false := rfl
  have e3 : (2 ^ IntKind.u64.bits : Int) = 18446744073709551616 := rfl
  unfold IntKind.wrap
  simp only [e1, e3, Bool.false_and]
  simp
theorem orN (a b i : Nat) (hb : b < 2 ^ i) (h : a * 2 ^ i + b < 18446744073709551616) : bits .or .u64 ((a * 2 ^ i : Nat) : Int) (b : Int) = ((a * 2 ^ i + b : Nat) : Int) := by
  rw [bits_or_u64_nat _ _ (by omega) (by omega), Nat.mul_comm a, Nat.two_pow_add_eq_or_of_lt hb]
theorem mul_shift (a m b s : Nat) : (a * m + b) * s = a * s * m + b * s := by rw [Nat.add_mul, Nat.mul_right_comm]
theorem tot_l {H B W U d1 d0 : Nat} (hU : U = H + B) (h1 : d1 = W / 4294967296) (h0 : d0 = W % 4294967296) : H * 18446744073709551616 + (B * 18446744073709551616 + W) = (U * 4294967296 + d1) * 4294967296 + d0 := by omega
theorem norm_y {y s : Nat} (h0 : y ≠ 0) (hy : y < 18446744073709551616) (hs : s = 64 - bitLen y) : s ≤ 63 ∧ 9223372036854775808 ≤ y * 2 ^ s ∧ y * 2 ^ s < 18446744073709551616 := by
  obtain ⟨h1, h2⟩ := bitLen_spec y
  have h3 := h2 h0
  have hb : bitLen y ≤ 64 := by
    unfold bitLen
    rw [if_neg h0]
    have := (Nat.log2_lt h0).2 (show y < 2 ^ 64 by omega)
    omega
  have hb1 : 1 ≤ bitLen y := by unfold bitLen; rw [if_neg h0]; omega
  have e : bitLen y + s = 64 := by omega
  refine ⟨by omega, ?_, ?_⟩
  · have := Nat.mul_le_mul_right (2 ^ s) h3
    rw [← Nat.pow_add, show bitLen y - 1 + s = 63 by omega] at this
    omega
  · have := Nat.mul_lt_mul_of_pos_right h1 (Nat.two_pow_pos s)
    rw [← Nat.pow_add, e] at this
    omega
variable {C : CC} (hC : Closed prog C)
include hC
theorem Div64_c (hi lo y : Nat) (h : hi < y) (hy : y < 18446744073709551616) (hl : lo < 18446744073709551616) :
    C 92 [.int .u64 hi, .int .u64 lo, .int .u64 y] (.tup [.int .u64 (((hi * 18446744073709551616 + lo) / y : Nat) : Int), .int .u64 (((hi * 18446744073709551616 + lo) % y : Nat) : Int)]) [] := by
  refine start hC (nf := N92_math_bits_Div64) rfl rfl ?_
  have h1 : ¬ y = 0 := by omega
  have h2 : ¬ y ≤ hi := by omega
  generalize hres : D.tup [D.int .u64 (((hi * 18446744073709551616 + lo) / y : Nat) : Int), .int .u64 (((hi * 18446744073709551616 + lo) % y : Nat) : Int)] = res
  simp [N92_math_bits_Div64]
  refine brB_of (fun h => ?_) (fun _ => ?_)
  · simp at h; omega
  simp
  refine brB_of (fun h => ?_) (fun _ => ?_)
  · simp at h; omega
  simp
  refine brB_of (fun h => ?_) (fun h3 => ?_)
  · simp at h
    have : hi = 0 := by omega
    subst this
    have hq : lo / y < 18446744073709551616 := by have := Nat.div_le_self lo y; omega
    obtain ⟨q, hq'⟩ : ∃ q, q = lo / y := ⟨_, rfl⟩
    obtain ⟨r, hr'⟩ : ∃ r, r = lo % y := ⟨_, rfl⟩
    have e1 : Int.tdiv (lo : Int) (y : Int) = (q : Int) := by rw [tdivN, hq']
    have e2 : Int.tmod (lo : Int) (y : Int) = (r : Int) := by rw [tmodN, hr']
    simp [h1, e1, e2, wrapN q (by omega)]
    refine ⟨indW_of (by decide +kernel), ?_⟩
    rw [← hres, hq', hr', Nat.zero_mul, Nat.zero_add]
  simp
  refine callW_of (LeadingZeros64_c hC y hy) (.inl rfl) ?_
  generalize hs : 64 - bitLen y = s
  obtain ⟨s1, s2, s3⟩ := norm_y h1 hy hs.symm
  have w1 : IntKind.u64.wrap (s : Int) = (s : Int) := wrapN _ (by omega)
  have w2 : IntKind.u64.wrap (64 - (s : Int)) = ((64 - s : Nat) : Int) := by rw [wrapU]; omega
  have m1 : min s IntKind.u64.bits = s := by show min s 64 = s; omega
  have m2 : min (64 - s) IntKind.u64.bits = 64 - s := by show min (64 - s) 64 = 64 - s; omega
  obtain ⟨Y, hY⟩ : ∃ Y, Y = y * 2 ^ s := ⟨_, rfl⟩
  obtain ⟨H, hH⟩ : ∃ H, H = hi * 2 ^ s := ⟨_, rfl⟩
  obtain ⟨W, hW⟩ : ∃ W, W = lo * 2 ^ s % 18446744073709551616 := ⟨_, rfl⟩
  obtain ⟨B, hB⟩ : ∃ B, B = lo / 2 ^ (64 - s) := ⟨_, rfl⟩
  rw [← hY] at s2 s3
  have hHY : H + 2 ^ s ≤ Y := by
    have := Nat.mul_le_mul_right (2 ^ s) h
    rw [hH, hY]
    rw [Nat.succ_mul] at this
    exact this
  have hBs : B < 2 ^ s := by
    rw [hB, Nat.div_lt_iff_lt_mul (Nat.two_pow_pos _), ← Nat.pow_add, show s + (64 - s) = 64 by omega]
    exact hl
  obtain ⟨U, hU⟩ : ∃ U, U = H + B := ⟨_, rfl⟩
  have hUY : U < Y := by omega
  have eY : IntKind.u64.wrap ((y : Int) * 2 ^ s) = (Y : Int) := by
    rw [show (y : Int) * 2 ^ s = (Y : Int) by rw [hY]; norm_cast]; exact wrapN _ s3
  have eH : IntKind.u64.wrap ((hi : Int) * 2 ^ s) = (H : Int) := by
    rw [show (hi : Int) * 2 ^ s = (H : Int) by rw [hH]; norm_cast]; exact wrapN _ (by omega)
  have eW : IntKind.u64.wrap ((lo : Int) * 2 ^ s) = (W : Int) := by
    rw [show (lo : Int) * 2 ^ s = ((lo * 2 ^ s : Nat) : Int) by norm_cast, wrapM, hW]
  have eB : Int.fdiv (lo : Int) (2 ^ (64 - s)) = (B : Int) := by rw [shrN, hB]
  have eU : bits .or .u64 (H : Int) (B : Int) = (U : Int) := by
    rw [hU, hH]; exact orN hi B s hBs (by omega)
  obtain ⟨Y1, hY1⟩ : ∃ Y1, Y1 = Y / 4294967296 := ⟨_, rfl⟩
  obtain ⟨Y0, hY0⟩ : ∃ Y0, Y0 = Y % 4294967296 := ⟨_, rfl⟩
  obtain ⟨d1, hd1⟩ : ∃ d1, d1 = W / 4294967296 := ⟨_, rfl⟩
  obtain ⟨d0, hd0⟩ : ∃ d0, d0 = W % 4294967296 := ⟨_, rfl⟩
  have eY1 : Int.fdiv (Y : Int) (2 ^ min 32 IntKind.u64.bits) = (Y1 : Int) := by rw [shr32, hY1]
  have eY0 : bits .and .u64 (Y : Int) 4294967295 = (Y0 : Int) := by rw [maskN _ s3, hY0]
  have hW64 : W < 18446744073709551616 := by rw [hW]; exact Nat.mod_lt _ (by omega)
  have ed1 : Int.fdiv (W : Int) (2 ^ min 32 IntKind.u64.bits) = (d1 : Int) := by rw [shr32, hd1]
  have ed0 : bits .and .u64 (W : Int) 4294967295 = (d0 : Int) := by rw [maskN _ hW64, hd0]
  have hY1a : 2147483648 ≤ Y1 := by omega
  have hY1b : Y1 < 4294967296 := by omega
  have hY0b : Y0 < 4294967296 := by omega
  have hd1b : d1 < 4294967296 := by omega
  have hd0b : d0 < 4294967296 := by omega
  have hYs : Y1 * 4294967296 + Y0 = Y := by omega
  have nz : ¬ Y1 = 0 := by omega
  have inv1 := DvI.first hY1a hY1b hY0b (u := U) (d := d1) (by omega) hd1b
  obtain ⟨q, hq⟩ : ∃ q, q = U / Y1 := ⟨_, rfl⟩
  obtain ⟨r, hr⟩ : ∃ r, r = U % Y1 := ⟨_, rfl⟩
  rw [← hq, ← hr] at inv1
  have eq1 : Int.tdiv (U : Int) (Y1 : Int) = (q : Int) := by rw [tdivN, hq]
  have eq2 : IntKind.u64.wrap (q : Int) = (q : Int) := wrapN _ (by have := inv1.qle; omega)
  have sub1 : ∀ (u a q r : Nat), q * a + r = u → u < 18446744073709551616 → IntKind.u64.wrap ((u : Int) - IntKind.u64.wrap ((q : Int) * (a : Int))) = (r : Int) := fun u a q r e hu => by
    rw [mulN, wrapU, wrapU]
    generalize q * a = z at *
    omega
  have er : IntKind.u64.wrap ((U : Int) - IntKind.u64.wrap ((q : Int) * (Y1 : Int))) = (r : Int) := sub1 _ _ _ _ inv1.sum (by omega)
  simp [w1, w2, m1, m2, eY, eH, eW, eB, eU, eY1, eY0, ed1, ed0, eq1, eq2, er, nz]
  have bm : ∀ {u d q r : Nat}, DvI u d Y1 Y0 q r → IntKind.u64.wrap ((q : Int) * (Y0 : Int)) = ((q * Y0 : Nat) : Int) := fun i => by rw [mulN]; exact wrapN _ (i.bnd hY0b)
  have bp : ∀ {u d q r : Nat}, d < 4294967296 → DvI u d Y1 Y0 q r → IntKind.u64.wrap (IntKind.u64.wrap (4294967296 * (r : Int)) + (d : Int)) = ((4294967296 * r + d : Nat) : Int) := fun {u d q r} hd i => by
    have := i.rlt
    rw [show (4294967296 : Int) * (r : Int) = ((4294967296 * r : Nat) : Int) by omega, wrapN (4294967296 * r) (by omega), addN]
    exact wrapN _ (by omega)
  obtain ⟨Q1, hQ1⟩ : ∃ Q1, Q1 = (U * 4294967296 + d1) / (Y1 * 4294967296 + Y0) := ⟨_, rfl⟩
  refine loop_out 0 Nat (fun x => [(2, .int .u64 Y), (8, .int .u64 s), (9, .int .u64 Y1), (10, .int .u64 Y0), (11, .int .u64 U), (13, .int .u64 d1), (14, .int .u64 d0), (15, .int .u64 x)]) (fun x => x = Q1) ?_ ?_
  · refine loop_of (Nat × Nat) (fun x => [(2, .int .u64 Y), (8, .int .u64 s), (9, .int .u64 Y1), (10, .int .u64 Y0), (11, .int .u64 U), (13, .int .u64 d1), (14, .int .u64 d0), (15, .int .u64 x.1), (16, .int .u64 x.2)]) (fun x => DvI U d1 Y1 Y0 x.1 x.2) (fun x => 4294967296 - x.2) (q, r) inv1 (by simp) ?_
    rintro ⟨a, c⟩ inv
    simp only at inv
    have b1 := bm inv
    have b2 := bp hd1b inv
    have b3 := inv.rlt
    have b4 := inv.qle
    have fin : (4294967296 ≤ a ∨ 4294967296 * c + d1 < a * Y0) → ∃ a' c' : Nat, IntKind.u64.wrap ((a : Int) - 1) = (a' : Int) ∧ IntKind.u64.wrap ((c : Int) + (Y1 : Int)) = (c' : Int) ∧ c' = c + Y1 ∧ (4294967296 ≤ c' → a' = Q1) ∧ (c' < 4294967296 → DvI U d1 Y1 Y0 a' c') := fun hc => by
      obtain ⟨n1, n2, n3, n4⟩ := inv.next (by omega) (by rw [hYs]; exact hUY) hd1b hc
      refine ⟨a - 1, c + Y1, by rw [wrapU]; omega, by rw [wrapU]; omega, rfl, fun hc => (Dv.stop n2 n3 n4 (by omega) hY0b hc).trans hQ1.symm, fun hc => ⟨n2, n3, hc, by omega⟩⟩
    simp
    refine brB_of (fun c1 => ?_) (fun c1 => ?_) <;> simp [c1] <;> simp at c1
    · obtain ⟨a', c', k1, k2, k3, k4, k5⟩ := fin (.inl (by omega))
      simp [k1, k2]
      refine brB_of (fun c2 => ?_) (fun c2 => ?_) <;> simp [c2, k1, k2] <;> simp at c2
      · rw [k4 (by omega)]
      · exact ⟨_, _, k5 (by omega), by omega, rfl, rfl⟩
    · simp [b1, b2]
      refine brB_of (fun c3 => ?_) (fun c3 => ?_) <;> simp [c3] <;> simp at c3
      · obtain ⟨a', c', k1, k2, k3, k4, k5⟩ := fin (.inr (by omega))
        simp [k1, k2]
        refine brB_of (fun c2 => ?_) (fun c2 => ?_) <;> simp [c2, k1, k2] <;> simp at c2
        · rw [k4 (by omega)]
        · exact ⟨_, _, k5 (by omega), by omega, rfl, rfl⟩
      · rw [(inv.done (by omega) (by omega)).trans hQ1.symm]
  intro q1 e hq1 hw
  subst hq1
  simp at hw
  obtain ⟨g2, g8, g9, g10, g11, g13, g14, g15⟩ := hw
  obtain ⟨V, hV⟩ : ∃ V, V = (U * 4294967296 + d1) % (Y1 * 4294967296 + Y0) := ⟨_, rfl⟩
  have hVY : V < Y := by rw [hV, hYs]; exact Nat.mod_lt _ (by omega)
  have sum1 : q1 * Y + V = U * 4294967296 + d1 := by rw [hQ1, hV, hYs, Nat.mul_comm]; exact Nat.div_add_mod _ _
  have eV : IntKind.u64.wrap (IntKind.u64.wrap (IntKind.u64.wrap ((U : Int) * 4294967296) + (d1 : Int)) - IntKind.u64.wrap ((q1 : Int) * (Y : Int))) = (V : Int) := by
    rw [mulN q1 Y]
    simp only [wrapU]
    generalize q1 * Y = z at *
    omega
  have inv2 := DvI.first hY1a hY1b hY0b (u := V) (d := d0) (by omega) hd0b
  obtain ⟨q2, hq2⟩ : ∃ q, q = V / Y1 := ⟨_, rfl⟩
  obtain ⟨r2, hr2⟩ : ∃ r, r = V % Y1 := ⟨_, rfl⟩
  rw [← hq2, ← hr2] at inv2
  have eq3 : Int.tdiv (V : Int) (Y1 : Int) = (q2 : Int) := by rw [tdivN, hq2]
  have eq4 : IntKind.u64.wrap (q2 : Int) = (q2 : Int) := wrapN _ (by have := inv2.qle; omega)
  have er2 : IntKind.u64.wrap ((V : Int) - IntKind.u64.wrap ((q2 : Int) * (Y1 : Int))) = (r2 : Int) := sub1 _ _ _ _ inv2.sum (by omega)
  simp [g2, g8, g9, g10, g11, g13, g14, g15, eV, eq3, eq4, er2, nz]
  obtain ⟨Q0, hQ0⟩ : ∃ Q0, Q0 = (V * 4294967296 + d0) / (Y1 * 4294967296 + Y0) := ⟨_, rfl⟩
  refine loop_out 2 Nat (fun x => [(2, .int .u64 Y), (8, .int .u64 s), (14, .int .u64 d0), (15, .int .u64 q1), (17, .int .u64 V), (18, .int .u64 x)]) (fun x => x = Q0) ?_ ?_
  · refine loop_of (Nat × Nat) (fun x => [(2, .int .u64 Y), (8, .int .u64 s), (9, .int .u64 Y1), (10, .int .u64 Y0), (14, .int .u64 d0), (15, .int .u64 q1), (16, .int .u64 x.2), (17, .int .u64 V), (18, .int .u64 x.1)]) (fun x => DvI V d0 Y1 Y0 x.1 x.2) (fun x => 4294967296 - x.2) (q2, r2) inv2 (by simp) ?_
    rintro ⟨a, c⟩ inv
    simp only at inv
    have b1 := bm inv
    have b2 := bp hd0b inv
    have b3 := inv.rlt
    have b4 := inv.qle
    have fin : (4294967296 ≤ a ∨ 4294967296 * c + d0 < a * Y0) → ∃ a' c' : Nat, IntKind.u64.wrap ((a : Int) - 1) = (a' : Int) ∧ IntKind.u64.wrap ((c : Int) + (Y1 : Int)) = (c' : Int) ∧ c' = c + Y1 ∧ (4294967296 ≤ c' → a' = Q0) ∧ (c' < 4294967296 → DvI V d0 Y1 Y0 a' c') := fun hc => by
      obtain ⟨n1, n2, n3, n4⟩ := inv.next (by omega) (by rw [hYs]; exact hVY) hd0b hc
      refine ⟨a - 1, c + Y1, by rw [wrapU]; omega, by rw [wrapU]; omega, rfl, fun hc => (Dv.stop n2 n3 n4 (by omega) hY0b hc).trans hQ0.symm, fun hc => ⟨n2, n3, hc, by omega⟩⟩
    simp
    refine brB_of (fun c1 => ?_) (fun c1 => ?_) <;> simp [c1] <;> simp at c1
    · obtain ⟨a', c', k1, k2, k3, k4, k5⟩ := fin (.inl (by omega))
      simp [k1, k2]
      refine brB_of (fun c2 => ?_) (fun c2 => ?_) <;> simp [c2, k1, k2] <;> simp at c2
      · rw [k4 (by omega)]
      · exact ⟨_, _, k5 (by omega), by omega, rfl, rfl⟩
    · simp [b1, b2]
      refine brB_of (fun c3 => ?_) (fun c3 => ?_) <;> simp [c3] <;> simp at c3
      · obtain ⟨a', c', k1, k2, k3, k4, k5⟩ := fin (.inr (by omega))
        simp [k1, k2]
        refine brB_of (fun c2 => ?_) (fun c2 => ?_) <;> simp [c2, k1, k2] <;> simp at c2
        · rw [k4 (by omega)]
        · exact ⟨_, _, k5 (by omega), by omega, rfl, rfl⟩
      · rw [(inv.done (by omega) (by omega)).trans hQ0.symm]
  intro q0 e hq0 hw
  subst hq0
  simp at hw
  obtain ⟨g2, g8, g14, g15, g17, g18⟩ := hw
  have l1 : q1 < 4294967296 := by rw [hQ1]; exact Dv.lt (by omega) (by omega) hd1b
  have l0 : q0 < 4294967296 := by rw [hQ0]; exact Dv.lt (by omega) (by omega) hd0b
  obtain ⟨R, hR⟩ : ∃ R, R = (V * 4294967296 + d0) % (Y1 * 4294967296 + Y0) := ⟨_, rfl⟩
  have hRY : R < Y := by rw [hR, hYs]; exact Nat.mod_lt _ (by omega)
  have sum0 : q0 * Y + R = V * 4294967296 + d0 := by rw [hQ0, hR, hYs, Nat.mul_comm]; exact Nat.div_add_mod _ _
  have eR : IntKind.u64.wrap (IntKind.u64.wrap (IntKind.u64.wrap ((V : Int) * 4294967296) + (d0 : Int)) - IntKind.u64.wrap ((q0 : Int) * (Y : Int))) = (R : Int) := by
    rw [mulN q0 Y]
    simp only [wrapU]
    generalize q0 * Y = z at *
    omega
  obtain ⟨Z, hZ⟩ : ∃ Z, Z = R / 2 ^ s := ⟨_, rfl⟩
  have eZ : Int.fdiv (R : Int) (2 ^ s) = (Z : Int) := by rw [shrN, hZ]
  have eQ : IntKind.u64.wrap (IntKind.u64.wrap ((q1 : Int) * 4294967296) + (q0 : Int)) = ((q1 * 4294967296 + q0 : Nat) : Int) := by
    simp only [wrapU]
    omega
  obtain ⟨T, hT⟩ : ∃ T, T = q1 * 4294967296 + q0 := ⟨_, rfl⟩
  rw [← hT] at eQ
  simp [g2, g8, g14, g15, g17, g18, w1, m1, eR, eZ, eQ]
  have hW2 : lo * 2 ^ s = B * 18446744073709551616 + W := by
    have e1 : lo * 2 ^ s / 18446744073709551616 = B := by
      rw [hB, show (18446744073709551616 : Nat) = 2 ^ (64 - s) * 2 ^ s by rw [← Nat.pow_add, show 64 - s + s = 64 by omega], Nat.mul_div_mul_right _ _ (Nat.two_pow_pos s)]
    have e2 := Nat.div_add_mod (lo * 2 ^ s) 18446744073709551616
    omega
  have tot : (hi * 18446744073709551616 + lo) * 2 ^ s = (U * 4294967296 + d1) * 4294967296 + d0 := by
    rw [mul_shift, hW2, ← hH]
    exact tot_l hU hd1 hd0
  obtain ⟨f1, f2⟩ := dv_all (N := hi * 18446744073709551616 + lo) (y := y) (S := 2 ^ s) (A := U * 4294967296 + d1) (K := 4294967296) (un0 := d0) (y' := Y1 * 4294967296 + Y0) (by omega) (Nat.two_pow_pos s) (by rw [hYs, hY]) tot
  rw [← hV, ← hQ1, ← hQ0, ← hT] at f1
  rw [← hV, ← hR, ← hZ] at f2
  rw [← hres, f1, f2]
end Go.Gv

set_option linter.unusedSimpArgs false
namespace Go.Gv
def wideD (n : Nat) : D := .agg [.int .u64 ((n / 18446744073709551616 : Nat) : Int), .int .u64 ((n % 18446744073709551616 : Nat) : Int)]
def rootF (x : Nat) : Nat → Nat → Nat
  | 0, r => r
  | i + 1, r => rootF x i (if (r + 2 ^ i) * (r + 2 ^ i) ≤ x then r + 2 ^ i else r)
def rootN (x : Nat) : Nat := rootF x 63 0
theorem mulwide {x k : Nat} : x * k = (x / 18446744073709551616 * k + x % 18446744073709551616 * k / 18446744073709551616) * 18446744073709551616 + x % 18446744073709551616 * k % 18446744073709551616 := by
  have e1 := Nat.div_add_mod x 18446744073709551616
  have e2 := Nat.div_add_mod (x % 18446744073709551616 * k) 18446744073709551616
  have e3 : x * k = (18446744073709551616 * (x / 18446744073709551616) + x % 18446744073709551616) * k := by rw [e1]
  rw [Nat.add_mul, Nat.mul_assoc] at e3
  generalize x / 18446744073709551616 * k = A at *
  generalize x % 18446744073709551616 * k = B at *
  omega
theorem divwide {x n : Nat} (hn : 0 < n) : x / n = (x / 18446744073709551616 / n) * 18446744073709551616 + (x / 18446744073709551616 % n * 18446744073709551616 + x % 18446744073709551616) / n ∧ (x / 18446744073709551616 % n * 18446744073709551616 + x % 18446744073709551616) / n < 18446744073709551616 := by
  obtain ⟨H, hH⟩ : ∃ H, H = x / 18446744073709551616 := ⟨_, rfl⟩
  obtain ⟨L, hL⟩ : ∃ L, L = x % 18446744073709551616 := ⟨_, rfl⟩
  rw [← hH, ← hL]
  have hx : x = H * 18446744073709551616 + L := by omega
  have hl : L < 18446744073709551616 := by omega
  have e1 := Nat.div_add_mod H n
  have l1 := Nat.mod_lt H hn
  generalize H / n = a at *
  generalize H % n = b at *
  constructor
  · rw [hx, ← e1, show (n * a + b) * 18446744073709551616 + L = n * (a * 18446744073709551616) + (b * 18446744073709551616 + L) by rw [Nat.add_mul, Nat.mul_assoc, Nat.add_assoc], Nat.mul_add_div hn]
  · rw [Nat.div_lt_iff_lt_mul hn]
    have : (b + 1) * 18446744073709551616 ≤ n * 18446744073709551616 := Nat.mul_le_mul_right _ l1
    rw [Nat.mul_comm n] at this
    omega
theorem rootF_step (x i r : Nat) : rootF x (i + 1) r = rootF x i (if (r + 2 ^ i) * (r + 2 ^ i) ≤ x then r + 2 ^ i else r) := rfl
variable {C : CC} (hC : Closed prog C)
include hC
theorem product_c (a b : Nat) (ha : a < 9223372036854775808) (hb : b < 9223372036854775808) : C 74 [.int .i64 a, .int .i64 b] (wideD (a * b)) [] := by
  refine start hC (nf := N74_catalogue_product) rfl rfl ?_
  simp [N74_catalogue_product, wrapN a (by omega), wrapN b (by omega)]
  refine callW_of (Mul64_c hC a b (by omega) (by omega)) (.inl rfl) ?_
  obtain ⟨h, hh⟩ : ∃ h, h = a * b / 18446744073709551616 := ⟨_, rfl⟩
  obtain ⟨l, hl⟩ : ∃ l, l = a * b % 18446744073709551616 := ⟨_, rfl⟩
  rw [← hh, ← hl, wideD, ← hh, ← hl]
  simp
theorem times_c (x k : Nat) (hk : k < 9223372036854775808) (hx : x < 340282366920938463463374607431768211456) (hxk : x * k < 340282366920938463463374607431768211456) : C 75 [wideD x, .int .i64 k] (wideD (x * k)) [] := by
  have e := mulwide (x := x) (k := k)
  obtain ⟨h, hh⟩ : ∃ h, h = x / 18446744073709551616 := ⟨_, rfl⟩
  obtain ⟨l, hl⟩ : ∃ l, l = x % 18446744073709551616 := ⟨_, rfl⟩
  have hh' : h < 18446744073709551616 := by omega
  have hl' : l < 18446744073709551616 := by omega
  rw [← hh, ← hl] at e
  obtain ⟨p, hp⟩ : ∃ p, p = l * k / 18446744073709551616 := ⟨_, rfl⟩
  obtain ⟨q, hq⟩ : ∃ q, q = l * k % 18446744073709551616 := ⟨_, rfl⟩
  rw [← hp, ← hq] at e
  have hq' : q < 18446744073709551616 := by omega
  obtain ⟨z, hz⟩ : ∃ z, z = h * k := ⟨_, rfl⟩
  obtain ⟨y, hy⟩ : ∃ y, y = x * k := ⟨_, rfl⟩
  rw [← hz, ← hy] at e
  rw [← hy] at hxk
  obtain ⟨t, ht⟩ : ∃ t, t = z + p := ⟨_, rfl⟩
  rw [← ht] at e
  have e1 : y / 18446744073709551616 = t := by omega
  have e2 : y % 18446744073709551616 = q := by omega
  have ht' : t < 18446744073709551616 := by omega
  have et : IntKind.u64.wrap ((p : Int) + IntKind.u64.wrap ((h : Int) * (k : Int))) = (t : Int) := by
    rw [mulN h k, ← hz, wrapU, wrapU]
    clear hxk hx e e1 e2 hq hp hl hh hy hz
    omega
  have r1 : wideD (x * k) = .agg [.int .u64 (t : Int), .int .u64 (q : Int)] := by rw [wideD, ← hy, e1, e2]
  have r2 : wideD x = .agg [.int .u64 (h : Int), .int .u64 (l : Int)] := by rw [wideD, ← hh, ← hl]
  rw [r1, r2]
  clear r1 r2 e1 e2 e hh hl hx hxk
  refine start hC (nf := N75_catalogue_wide_times) rfl rfl ?_
  simp [N75_catalogue_wide_times, wrapN k (by omega)]
  refine callW_of (Mul64_c hC l k hl' (by omega)) (.inl rfl) ?_
  rw [← hp, ← hq]
  simp [et, wrapN k (by omega)]
theorem over_c (x n : Nat) (hn : 0 < n) (hn2 : n < 9223372036854775808) (hx : x < 340282366920938463463374607431768211456) : C 76 [wideD x, .int .i64 n] (wideD (x / n)) [] := by
  obtain ⟨e, e0⟩ := divwide (x := x) hn
  obtain ⟨h, hh⟩ : ∃ h, h = x / 18446744073709551616 := ⟨_, rfl⟩
  obtain ⟨l, hl⟩ : ∃ l, l = x % 18446744073709551616 := ⟨_, rfl⟩
  have hh' : h < 18446744073709551616 := by omega
  have hl' : l < 18446744073709551616 := by omega
  rw [← hh, ← hl] at e e0
  obtain ⟨p, hp⟩ : ∃ p, p = h / n := ⟨_, rfl⟩
  obtain ⟨r, hr⟩ : ∃ r, r = h % n := ⟨_, rfl⟩
  rw [← hp, ← hr] at e
  rw [← hr] at e0
  obtain ⟨q, hq⟩ : ∃ q, q = (r * 18446744073709551616 + l) / n := ⟨_, rfl⟩
  rw [← hq] at e e0
  have hrn : r < n := by rw [hr]; exact Nat.mod_lt _ hn
  have e1 : x / n / 18446744073709551616 = p := by omega
  have e2 : x / n % 18446744073709551616 = q := by omega
  have hpl : p < 18446744073709551616 := by rw [hp]; have := Nat.div_le_self h n; omega
  have ep : Int.tdiv (h : Int) (n : Int) = (p : Int) := by rw [tdivN, hp]
  have er : Int.tmod (h : Int) (n : Int) = (r : Int) := by rw [tmodN, hr]
  have r1 : wideD (x / n) = .agg [.int .u64 (p : Int), .int .u64 (q : Int)] := by rw [wideD, e1, e2]
  have r2 : wideD x = .agg [.int .u64 (h : Int), .int .u64 (l : Int)] := by rw [wideD, ← hh, ← hl]
  rw [r1, r2]
  clear r1 r2 e1 e2 e hh hl hx
  refine start hC (nf := N76_catalogue_wide_over) rfl rfl ?_
  have hn0 : ¬ n = 0 := by omega
  simp [N76_catalogue_wide_over, wrapN n (by omega), hn0, ep, er, wrapN p hpl]
  refine ⟨indW_of (by decide +kernel), ?_⟩
  refine callW_of (Div64_c hC r l n hrn (by omega) hl') (.inl rfl) ?_
  rw [← hq]
  simp
theorem root_c (x : Nat) : C 77 [wideD x] (.int .i64 (rootN x)) [] := by
  obtain ⟨h, hh⟩ : ∃ h, h = x / 18446744073709551616 := ⟨_, rfl⟩
  obtain ⟨l, hl⟩ : ∃ l, l = x % 18446744073709551616 := ⟨_, rfl⟩
  have r2 : wideD x = .agg [.int .u64 (h : Int), .int .u64 (l : Int)] := by rw [wideD, ← hh, ← hl]
  rw [r2]
  obtain ⟨N, hN⟩ : ∃ N, N = rootN x := ⟨_, rfl⟩
  rw [← hN]
  refine start hC (nf := N77_catalogue_wide_root) rfl rfl ?_
  simp [N77_catalogue_wide_root]
  refine loop_of (Nat × Nat × Nat) (fun s => [(1, .ptr [.int .u64 (h : Int), .int .u64 (l : Int)]), (3, .int .u64 s.2.1), (4, .int .u64 s.2.2)])
    (fun s => s.1 ≤ 63 ∧ (∃ a, s.2.1 = a * 2 ^ s.1) ∧ s.2.1 + 2 ^ s.1 ≤ 9223372036854775808 ∧ s.2.2 = (if s.1 = 0 then 0 else 2 ^ (s.1 - 1)) ∧ rootF x s.1 s.2.1 = N) (fun s => s.1) (63, 0, 4611686018427387904) ⟨by omega, ⟨0, by simp⟩, by decide, by decide, by rw [hN]; rfl⟩ (by simp) ?_
  rintro ⟨i, r, b⟩ ⟨h1, ⟨a, h2⟩, h3, h4, h5⟩
  simp only at h1 h2 h3 h4 h5
  simp
  refine brB_of (fun c => ?_) (fun c => ?_) <;> simp [c] <;> simp at c
  · obtain ⟨j, rfl⟩ : ∃ j, i = j + 1 := by
      cases i with
      | zero => simp at h4; omega
      | succ j => exact ⟨j, rfl⟩
    simp at h4
    have hb2 : 2 * b = 2 ^ (j + 1) := by rw [h4, Nat.pow_succ]; omega
    rw [← hb2] at h3 h2
    have hor : bits .or .u64 (r : Int) (b : Int) = ((r + b : Nat) : Int) := by
      rw [h2, show a * (2 * b) = a * 2 ^ (j + 1) by rw [hb2]]
      exact orN a b (j + 1) (by rw [← hb2]; omega) (by rw [← hb2, ← h2]; omega)
    obtain ⟨y, hy⟩ : ∃ y, y = r + b := ⟨_, rfl⟩
    rw [← hy] at hor
    have hsh : Int.fdiv (b : Int) (2 ^ min 1 IntKind.u64.bits) = ((b / 2 : Nat) : Int) := shrN b 1
    obtain ⟨b', hb'⟩ : ∃ b', b' = b / 2 := ⟨_, rfl⟩
    rw [← hb'] at hsh
    simp [hor]
    refine callW_of (Mul64_c hC y y (by omega) (by omega)) (.inl rfl) ?_
    obtain ⟨p, hp⟩ : ∃ p, p = y * y / 18446744073709551616 := ⟨_, rfl⟩
    obtain ⟨q, hq⟩ : ∃ q, q = y * y % 18446744073709551616 := ⟨_, rfl⟩
    rw [← hp, ← hq]
    have h6 : rootF x j (if y * y ≤ x then y else r) = N := by rw [← h5, rootF_step, hy, h4]
    have hb1 : b' = if j = 0 then 0 else 2 ^ (j - 1) := by
      rw [hb', h4]
      cases j with
      | zero => rfl
      | succ j => simp [Nat.pow_succ]
    have yes : y * y ≤ x → (j ≤ 63 ∧ (∃ a, y = a * 2 ^ j) ∧ y + 2 ^ j ≤ 9223372036854775808 ∧ b' = (if j = 0 then 0 else 2 ^ (j - 1)) ∧ rootF x j y = N) := fun hc => by
      rw [if_pos hc] at h6
      refine ⟨by omega, ⟨2 * a + 1, ?_⟩, by omega, hb1, h6⟩
      rw [hy, h2, ← h4, Nat.add_mul, Nat.mul_comm 2 a, Nat.mul_assoc]
      omega
    have no : ¬ y * y ≤ x → (j ≤ 63 ∧ (∃ a, r = a * 2 ^ j) ∧ r + 2 ^ j ≤ 9223372036854775808 ∧ b' = (if j = 0 then 0 else 2 ^ (j - 1)) ∧ rootF x j r = N) := fun hc => by
      rw [if_neg hc] at h6
      refine ⟨by omega, ⟨2 * a, ?_⟩, by omega, hb1, h6⟩
      rw [h2, ← h4, Nat.mul_comm 2 a, Nat.mul_assoc]
    simp
    generalize y * y = Z at *
    refine brB_of (fun c1 => ?_) (fun c1 => ?_) <;> simp [c1, hor, hsh] <;> simp at c1
    · exact ⟨j, y, b', yes (by omega), by omega, rfl, rfl⟩
    · refine brB_of (fun c2 => ?_) (fun c2 => ?_) <;> simp [c2, hor, hsh] <;> simp at c2
      · refine brB_of (fun c3 => ?_) (fun c3 => ?_) <;> simp [c3, hor, hsh] <;> simp at c3
        · exact ⟨j, y, b', yes (by omega), by omega, rfl, rfl⟩
        · exact ⟨j, r, b', no (by omega), by omega, rfl, rfl⟩
      · exact ⟨j, r, b', no (by omega), by omega, rfl, rfl⟩
  · have hi : i = 0 := by
      cases i with
      | zero => rfl
      | succ j =>
        simp at h4
        have := Nat.two_pow_pos j
        omega
    subst hi
    have : r = N := h5
    simp at h3
    have e1 : IntKind.wrap .i64 (r : Int) = (r : Int) := wrap_i64 rfl (by omega)
    rw [← this, e1]
end Go.Gv

set_option linter.unusedSimpArgs false
namespace Go.Gv
def okAt (t : List (Int × Int)) (i : Nat) : Bool := fits t[i]!.1 && fits t[i]!.2 && (i == 0 || (t[i - 1]!.1 < t[i]!.1 && t[i - 1]!.2 ≤ t[i]!.2))
def tableValid (t : List (Int × Int)) : Bool := 1 ≤ t.length && t.length ≤ 100 && (List.range t.length).all (okAt t)
variable {C : CC} (hC : Closed prog C)
include hC
theorem tableValid_c (b : Bool) (t : List (Int × Int)) : C 72 [slx b (t.map knD)] (.bool (tableValid t)) [] := by
  refine start hC (nf := N72_table_Valid) rfl rfl ?_
  simp [N72_table_Valid]
  refine brB_of (fun h => ?_) (fun h => ?_) <;> simp at h
  · simp [tableValid, show t.length = 0 by omega]
  simp [h]
  refine brB_of (fun h2 => ?_) (fun h2 => ?_) <;> simp at h2
  · simp [tableValid, h, h2]
    omega
  simp
  refine loop_of Nat (fun i => [(0, slx b (t.map knD)), (13, slx b (t.map knD)), (14, .int .i64 t.length), (15, .int .i64 i)]) (fun i => i ≤ t.length ∧ ∀ j < i, okAt t j = true) (fun i => t.length - i) 0 (by simp) (by simp) ?_
  rintro i ⟨hi, hj⟩
  simp
  refine brB_of (fun h3 => ?_) (fun h3 => ?_) <;> simp at h3
  · have bad : okAt t i = false → tableValid t = false := fun hb => by
      simp only [tableValid, Bool.and_eq_false_iff, List.all_eq_false]
      exact .inr ⟨i, by simpa using h3, by simp [hb]⟩
    have e1 : t[i]! = t[i] := getElem!_pos t i h3
    have e2 : t[i - 1]! = t[i - 1] := getElem!_pos t (i - 1) (by omega)
    simp only [okAt, e1, e2] at bad
    have hw1 : IntKind.wrap .i64 ((i : Int) + 1) = ((i + 1 : Nat) : Int) := wrap_i64 (by omega) (by omega)
    have next : okAt t i = true → ∃ s' : Nat, (s' ≤ t.length ∧ ∀ j < s', okAt t j = true) ∧ t.length - s' < t.length - i ∧ s' = i + 1 := fun ho =>
      ⟨i + 1, ⟨by omega, fun j hjj => by
        rcases Nat.lt_succ_iff_lt_or_eq.1 hjj with h | rfl
        · exact hj j h
        · exact ho⟩, by omega, rfl⟩
    simp only [okAt, e1, e2] at next
    simp [h3, knD]
    refine callW_of (fits_c hC _) (.inl rfl) ?_
    cases f1 : fits t[i].1
    · simp
      exact ⟨indW_of (by decide +kernel), bad (by simp [f1])⟩
    simp
    refine callW_of (fits_c hC _) (.inl rfl) ?_
    cases f2 : fits t[i].2
    · simp
      exact ⟨indW_of (by decide +kernel), bad (by simp [f2])⟩
    simp
    refine brB_of (fun h4 => ?_) (fun h4 => ?_) <;> simp at h4
    · have hw : IntKind.wrap .i64 ((i : Int) - 1) = ((i - 1 : Nat) : Int) := wrap_i64 (by omega) (by omega)
      have h5 : i - 1 < t.length := by omega
      simp [h4, hw, h5, knD]
      refine brB_of (fun h6 => ?_) (fun h6 => ?_) <;> simp [h6, hw, h5, knD] <;> simp at h6
      · refine ⟨indW_of (by decide +kernel), bad ?_⟩
        simp [f1, f2]
        omega
      · refine ⟨indW_of (by decide +kernel), brB_of (fun h7 => ?_) (fun h7 => ?_)⟩ <;> simp [h7, hw1] <;> simp at h7
        · refine bad ?_
          simp [f1, f2]
          omega
        · obtain ⟨s', g1, g2, rfl⟩ := next (by simp [f1, f2, h6, h7])
          exact ⟨_, g1, g2, rfl⟩
    · have hi0 : i = 0 := by omega
      subst hi0
      simp at hw1
      simp [hw1]
      refine ⟨indW_of (by decide +kernel), ?_⟩
      obtain ⟨s', g1, g2, rfl⟩ := next (by simp [f1, f2])
      exact ⟨_, g1, g2, rfl⟩
  · have : i = t.length := by omega
    subst this
    simp [tableValid, h, h2]
    exact ⟨⟨by omega, by omega⟩, hj⟩
end Go.Gv

set_option linter.unusedSimpArgs false
namespace Go.Gv
theorem valid_len {t : List (Int × Int)} (h : tableValid t = true) : 1 ≤ t.length ∧ t.length ≤ 100 := by
  simp only [tableValid, Bool.and_eq_true, decide_eq_true_eq] at h
  exact h.1
theorem valid_ok {t : List (Int × Int)} (h : tableValid t = true) {i : Nat} (hi : i < t.length) : fits t[i].1 = true ∧ fits t[i].2 = true ∧ ∀ j, (hj : j + 1 = i) → t[j].1 < t[i].1 ∧ t[j].2 ≤ t[i].2 := by
  simp only [tableValid, Bool.and_eq_true, List.all_eq_true, List.mem_range] at h
  have := h.2 i hi
  simp only [okAt, getElem!_pos t i hi, Bool.and_eq_true, Bool.or_eq_true, beq_iff_eq, decide_eq_true_eq] at this
  refine ⟨this.1.1, this.1.2, fun j hj => ?_⟩
  subst hj
  have h2 := this.2
  rw [Nat.add_sub_cancel, getElem!_pos t j (by omega)] at h2
  rcases h2 with h2 | h2
  · omega
  · exact h2
theorem valid_asc {t : List (Int × Int)} (h : tableValid t = true) : ∀ (j i : Nat) (hi : i < t.length) (hj : j < i), t[j].1 < t[i].1 := by
  intro j i
  induction i with
  | zero => intro _ hj; omega
  | succ i ih =>
    intro hi hj
    have h1 := ((valid_ok h hi).2.2 i rfl).1
    by_cases e : j = i
    · subst e; exact h1
    · have := ih (by omega) (by omega)
      omega
variable {C : CC} (hC : Closed prog C)
include hC
theorem cmpKnot_c (k : Int × Int) (x : Int) : C 97 [.agg (knD k), .int .i64 x] (.int .i64 (if k.1 < x then -1 else if x < k.1 then 1 else 0)) [] := by
  refine start hC (nf := N97_table_piece_1) rfl rfl ?_
  simp [N97_table_piece_1, knD]
  refine brB_of (fun c => ?_) (fun c => ?_)
  · simp at c
    simp [c]
  · simp at c
    have c1 : ¬ k.1 < x := by omega
    simp [c1]
    refine brB_of (fun c2 => ?_) (fun c2 => ?_)
    · simp at c2
      simp [c2, c]
    · simp at c2
      have c3 : ¬ x < k.1 := by omega
      simp [c3, c]
end Go.Gv

set_option linter.unusedSimpArgs false
namespace Go.Gv
theorem strict_extN {l l' : List Nat} (h1 : l.Pairwise (· < ·)) (h2 : l'.Pairwise (· < ·)) (h : ∀ x, x ∈ l ↔ x ∈ l') : l = l' := by
  have e := strict_ext (l := l.map fun k : Nat => (k : Int)) (l' := l'.map fun k : Nat => (k : Int)) (by rw [List.pairwise_map]; exact h1.imp fun h => by omega) (by rw [List.pairwise_map]; exact h2.imp fun h => by omega) (fun x => by
    simp only [List.mem_map]
    exact ⟨fun ⟨a, b, c⟩ => ⟨a, (h a).1 b, c⟩, fun ⟨a, b, c⟩ => ⟨a, (h a).2 b, c⟩⟩)
  have e2 := congrArg (List.map Int.toNat) e
  rw [List.map_map, List.map_map] at e2
  have f : (Int.toNat ∘ fun k : Nat => (k : Int)) = id := by funext k; simp
  rw [f, List.map_id, List.map_id] at e2
  exact e2
def posL (l : List Nat) (x : Nat) : Nat := l.findIdx fun k => decide (x ≤ k)
theorem posL_le (l : List Nat) (x : Nat) : posL l x ≤ l.length := List.findIdx_le_length
theorem posL_lt {l : List Nat} {x j : Nat} (h : j < posL l x) (hl : j < l.length) : l[j] < x := by
  have := List.not_of_lt_findIdx h
  simp at this
  exact this
theorem posL_ge {l : List Nat} {x : Nat} (h : posL l x < l.length) : x ≤ l[posL l x] := by
  have h2 := List.findIdx_getElem (w := h)
  exact of_decide_eq_true h2
theorem posL_of_le {l : List Nat} {x j : Nat} (hl : j < l.length) (h : x ≤ l[j]) : posL l x ≤ j := by
  apply Nat.le_of_not_lt
  intro hj
  have := posL_lt hj hl
  omega
theorem posL_of_lt {l : List Nat} (hs : l.Pairwise (· < ·)) {x j : Nat} (hl : j < l.length) (h : l[j] < x) : j < posL l x := by
  apply Nat.lt_of_not_le
  intro hj
  have h1 := posL_ge (l := l) (x := x) (by omega)
  rcases Nat.lt_or_eq_of_le hj with h2 | h2
  · have := List.pairwise_iff_getElem.1 hs (posL l x) j (by omega) hl h2
    omega
  · simp only [h2] at h1; omega
theorem ins_sorted {l : List Nat} {x : Nat} (hs : l.Pairwise (· < ·)) (hx : x ∉ l) : (l.take (posL l x) ++ x :: l.drop (posL l x)).Pairwise (· < ·) := by
  have hp := hs
  rw [← List.take_append_drop (posL l x) l, List.pairwise_append] at hp
  obtain ⟨h1, h2, h3⟩ := hp
  have lo : ∀ a ∈ l.take (posL l x), a < x := fun a ha => by
    obtain ⟨i, hi, rfl⟩ := List.mem_iff_getElem.1 ha
    have h4 : i < posL l x ∧ i < l.length := by simp at hi; omega
    rw [List.getElem_take]
    exact posL_lt h4.1 h4.2
  have hi : ∀ a ∈ l.drop (posL l x), x < a := fun a ha => by
    obtain ⟨i, hi, rfl⟩ := List.mem_iff_getElem.1 ha
    have hlt : posL l x + i < l.length := by simp at hi; omega
    rw [List.getElem_drop]
    have hne : l[posL l x + i] ≠ x := fun e => hx (e ▸ List.getElem_mem hlt)
    have : ¬ l[posL l x + i] < x := fun h => by have := posL_of_lt hs hlt h; omega
    omega
  rw [List.pairwise_append, List.pairwise_cons]
  refine ⟨h1, ⟨hi, h2⟩, fun a ha b hb => ?_⟩
  rcases List.mem_cons.1 hb with rfl | hb
  · exact lo a ha
  · exact h3 a ha b hb
theorem ins_filter {n : Nat} {p q : Nat → Bool} {x : Nat} (hx : x < n) (hp : p x = false) (hq : ∀ v, v < n → q v = (p v || v == x)) : ((List.range n).filter p).take (posL ((List.range n).filter p) x) ++ x :: ((List.range n).filter p).drop (posL ((List.range n).filter p) x) = (List.range n).filter q := by
  have hs : ((List.range n).filter p).Pairwise (· < ·) := List.Pairwise.filter _ List.pairwise_lt_range
  refine strict_extN (ins_sorted hs (by simp [hp])) (List.Pairwise.filter _ List.pairwise_lt_range) fun v => ?_
  have : v ∈ (List.range n).filter p ↔ v ∈ ((List.range n).filter p).take (posL ((List.range n).filter p) x) ∨ v ∈ ((List.range n).filter p).drop (posL ((List.range n).filter p) x) := by
    rw [← List.mem_append, List.take_append_drop]
  simp only [List.mem_append, List.mem_cons]
  rw [or_left_comm, ← this]
  simp only [List.mem_filter, List.mem_range]
  constructor
  · rintro (rfl | ⟨h1, h2⟩)
    · exact ⟨hx, by rw [hq _ hx]; simp⟩
    · exact ⟨h1, by rw [hq _ h1, h2]; rfl⟩
  · rintro ⟨h1, h2⟩
    rw [hq _ h1, Bool.or_eq_true, beq_iff_eq] at h2
    rcases h2 with h2 | h2
    · exact .inr ⟨h1, h2⟩
    · exact .inl h2
structure OrdI (n : Nat) (es : List Edg) (out : List Nat) : Prop where
  lt : ∀ v ∈ out, v < n
  nd : out.Nodup
  pre : ∀ v ∈ out, ∀ u, (u, v) ∈ es → u ∈ out
theorem OrdI.nil (n : Nat) (es : List Edg) : OrdI n es [] := ⟨by simp, by simp, by simp⟩
theorem OrdI.len {n : Nat} {es : List Edg} {out : List Nat} (h : OrdI n es out) : out.length ≤ n := by
  have := (List.nodup_range (n := n)).sublist (List.Sublist.refl _)
  have hsub : out ⊆ List.range n := fun v hv => by simpa using h.lt v hv
  have := List.Nodup.length_le_of_subset h.nd hsub
  simpa using this
theorem OrdI.step {n : Nat} {es : List Edg} {out : List Nat} (h : OrdI n es out) {i : Nat} (hi : i ∈ rdyL n es out) : OrdI n es (out ++ [i]) := by
  obtain ⟨h1, h2, h3⟩ := mem_rdyL.1 hi
  refine ⟨fun v hv => ?_, ?_, fun v hv u hu => ?_⟩
  · rcases List.mem_append.1 hv with hv | hv
    · exact h.lt v hv
    · simp at hv; omega
  · rw [List.nodup_append]
    refine ⟨h.nd, by simp, fun a ha b hb => ?_⟩
    simp at hb
    subst hb
    rintro rfl
    exact h2 ha
  · rcases List.mem_append.1 hv with hv | hv
    · exact List.mem_append.2 (.inl (h.pre v hv u hu))
    · simp at hv
      subst hv
      exact List.mem_append.2 (.inl (h3 u hu))
theorem ordN_I (n : Nat) (es : List Edg) : ∀ m, OrdI n es (ordN n es m)
  | 0 => .nil n es
  | m + 1 => by
    have ih := ordN_I n es m
    show OrdI n es (stepO n es (ordN n es m))
    unfold stepO
    split
    · exact ih
    · rename_i v r e
      exact ih.step (by rw [e]; simp)
theorem ordN_succ {n : Nat} {es : List Edg} {m i : Nat} {r : List Nat} (h : rdyL n es (ordN n es m) = i :: r) : ordN n es (m + 1) = ordN n es m ++ [i] := by
  show stepO n es (ordN n es m) = _
  unfold stepO
  rw [h]
theorem ordN_fix {n : Nat} {es : List Edg} {m : Nat} (h : rdyL n es (ordN n es m) = []) : ∀ k, ordN n es (m + k) = ordN n es m
  | 0 => rfl
  | k + 1 => by
    show stepO n es (ordN n es (m + k)) = _
    rw [ordN_fix h k]
    unfold stepO
    rw [h]
theorem ordF_of {n : Nat} {es : List Edg} {m : Nat} (hl : (ordN n es m).length = m) (h : rdyL n es (ordN n es m) = []) : ordF n es = ordN n es m := by
  have := (ordN_I n es m).len
  have e := ordN_fix h (n - m)
  rw [show m + (n - m) = n by omega] at e
  exact e
theorem rdy_step {n : Nat} {es : List Edg} {out : List Nat} (h : OrdI n es out) {i : Nat} {r : List Nat} (hr : rdyL n es out = i :: r) : rdyL n es (out ++ [i]) = (List.range n).filter fun v => (!out.contains v && prOk es out v && !(v == i)) || ((nxt n es i).contains v && prOk es (out ++ [i]) v) := by
  have hi : i ∈ rdyL n es out := by rw [hr]; simp
  obtain ⟨h1, h2, h3⟩ := mem_rdyL.1 hi
  unfold rdyL
  apply List.filter_congr
  intro v hv
  have hvn : v < n := by simpa using hv
  rw [Bool.eq_iff_iff]
  simp only [Bool.and_eq_true, Bool.or_eq_true, Bool.not_eq_true', List.contains_iff_mem, prOk_iff, mem_nxt, beq_eq_false_iff_ne, ne_eq]
  simp only [List.contains_eq_mem, decide_eq_false_iff_not, List.mem_append, List.mem_singleton, not_or]
  constructor
  · rintro ⟨⟨a1, a2⟩, a3⟩
    by_cases c : (i, v) ∈ es
    · exact .inr ⟨⟨hvn, c⟩, a3⟩
    · refine .inl ⟨⟨a1, fun u hu => ?_⟩, a2⟩
      rcases a3 u hu with b | rfl
      · exact b
      · exact absurd hu c
  · rintro (⟨⟨a1, a2⟩, a3⟩ | ⟨⟨_, a1⟩, a2⟩)
    · exact ⟨⟨a1, a3⟩, fun u hu => .inl (a2 u hu)⟩
    · refine ⟨⟨fun hv => h2 (h.pre v hv i a1), ?_⟩, a2⟩
      rintro rfl
      exact h2 (h3 _ a1)
variable {C : CC} (hC : Closed prog C)
include hC
theorem cNaN_c (x : Int) : C 299 [.int .i64 x] (.bool false) [] := by
  refine start hC (nf := N299_cmp_isNaN_int) rfl rfl ?_
  simp [N299_cmp_isNaN_int]
theorem sNaN_c (x : Int) : C 524 [.int .i64 x] (.bool false) [] := by
  refine start hC (nf := N524_slices_isNaN_int) rfl rfl ?_
  simp [N524_slices_isNaN_int]
theorem cLess_c (x y : Int) : C 411 [.int .i64 x, .int .i64 y] (.bool (decide (x < y))) [] := by
  refine start hC (nf := N411_cmp_Less_int) rfl rfl ?_
  simp [N411_cmp_Less_int]
  refine callW_of (cNaN_c hC x) (.inl rfl) ?_
  simp
theorem bsearch_c (l : List Nat) (x : Nat) (hs : l.Pairwise (· < ·)) (hl : l.length < 2 ^ 40) : C 518 [.sl (intL l), .int .i64 x] (.tup [.int .i64 (posL l x), .bool (decide (posL l x < l.length) && decide (l[posL l x]! = x))]) [] := by
  have hpl := posL_le l x
  obtain ⟨n, hn⟩ : ∃ n, n = posL l x := ⟨_, rfl⟩
  obtain ⟨r, hr⟩ : ∃ r, r = (decide (posL l x < l.length) && decide (l[posL l x]! = x)) := ⟨_, rfl⟩
  have hlt : ∀ j, (hj : j < l.length) → l[j] < x → j < n := fun j hj h1 => hn ▸ posL_of_lt hs hj h1
  have hle : ∀ j, (hj : j < l.length) → x ≤ l[j] → n ≤ j := fun j hj h1 => hn ▸ posL_of_le hj h1
  rw [← hn] at hpl ⊢
  rw [← hn] at hr
  rw [← hr]
  refine start hC (nf := N518_slices_BinarySearch__int_int) rfl rfl ?_
  simp [N518_slices_BinarySearch__int_int, intL]
  refine loop_of (Nat × Nat) (fun s => [(0, .sl (intL l)), (1, .int .i64 x), (6, .int .i64 l.length), (7, .int .i64 s.1), (8, .int .i64 s.2)]) (fun s => s.1 ≤ n ∧ n ≤ s.2 ∧ s.2 ≤ l.length) (fun s => s.2 - s.1) (0, l.length) (by simp; omega) (by simp [intL]) ?_
  rintro ⟨i, j⟩ ⟨h1, h2, h3⟩
  simp only at h1 h2 h3
  simp
  refine brB_of (fun g => ?_) (fun g => ?_) <;> simp at g <;> simp [g]
  · obtain ⟨m, hm⟩ : ∃ m, m = (i + j) / 2 := ⟨_, rfl⟩
    have e1 : IntKind.wrap .i64 ((i : Int) + (j : Int)) = ((i + j : Nat) : Int) := wrap_i64 (by omega) (by omega)
    obtain ⟨s, hsm⟩ : ∃ s, s = i + j := ⟨_, rfl⟩
    rw [← hsm] at e1 hm
    have e2 : Int.fdiv (s : Int) (2 ^ min 1 IntKind.u64.bits) = (m : Int) := by rw [hm]; exact shrN s 1
    have e3 : IntKind.wrap .i64 (m : Int) = (m : Int) := wrap_i64 rfl (by omega)
    have e4 : IntKind.wrap .i64 ((m : Int) + 1) = ((m + 1 : Nat) : Int) := wrap_i64 (by omega) (by omega)
    have hml : m < l.length := by omega
    simp [e1, wrapN s (by omega), e2, e3, hml, intL]
    refine callW_of (cLess_c hC l[m] x) (.inl rfl) ?_
    by_cases hmx : l[m] < x
    · have := hlt m hml hmx
      have hi : (l[m] : Int) < x := by omega
      simp [hmx, e4]
      exact ⟨m + 1, j, ⟨by omega, h2, h3⟩, by omega, by omega, by omega⟩
    · have := hle m hml (by omega)
      simp [hmx]
      exact ⟨i, m, ⟨h1, by omega, by omega⟩, by omega, by omega, by omega⟩
  · have e0 : i = n := by omega
    subst e0
    by_cases g2 : i < l.length
    · have eg : l[i]! = l[i] := getElem!_pos l i g2
      rw [eg] at hr
      simp [g2, intL]
      by_cases g3 : l[i] = x
      · simp [g3, g2] at hr ⊢
        exact hr
      · have g3i : ¬ (l[i] : Int) = x := by omega
        simp [g3, g3i, g2] at hr ⊢
        refine callW_of (sNaN_c hC _) (.inl rfl) ?_
        simp [hr]
    · simp [g2] at hr ⊢
      exact hr
end Go.Gv

set_option linter.unusedSimpArgs false
namespace Go.Gv
def wtA (n : Nat) (f : Nat → Nat) : List (List D) := (List.range n).map fun v => [.int .i64 (f v : Int)]
theorem wtA_get {n v : Nat} (f : Nat → Nat) (h : v < n) : (wtA n f)[v]? = some [.int .i64 (f v : Int)] := by simp [wtA, h]
theorem wtA_set {n v : Nat} (f : Nat → Nat) (x : Nat) : (wtA n f).set v [.int .i64 (x : Int)] = wtA n fun u => if u = v then x else f u := by
  unfold wtA
  rw [set_rm]
  apply List.map_congr_left
  intro u _
  by_cases h : u = v <;> simp [h]
theorem mem_tk {l : List Nat} {j v : Nat} (hj : j < l.length) : v ∈ l.take (j + 1) ↔ v ∈ l.take j ∨ v = l[j] := by
  rw [List.take_succ_eq_append_getElem hj, List.mem_append, List.mem_singleton]
theorem wtA_congr {n : Nat} {f g : Nat → Nat} (h : ∀ v, v < n → f v = g v) : wtA n f = wtA n g := by
  unfold wtA
  apply List.map_congr_left
  intro u hu
  rw [h u (by simpa using hu)]
def wt1 (n : Nat) (es : List Edg) (i j v : Nat) : Nat := cntU es i v + (if v ∈ (nxt n es i).take j then 1 else 0)
theorem wt1_end {n : Nat} {es : List Edg} {i v : Nat} (hv : v < n) : wt1 n es i (nxt n es i).length v = cntU es (i + 1) v := by
  unfold wt1
  rw [cntU_succ, List.take_length]
  simp [mem_nxt, hv]
theorem wt1_step {n : Nat} {es : List Edg} {i j : Nat} (hj : j < (nxt n es i).length) (v : Nat) : wt1 n es i (j + 1) v = if v = (nxt n es i)[j] then wt1 n es i j v + 1 else wt1 n es i j v := by
  unfold wt1
  simp only [mem_tk hj]
  have hnd : (nxt n es i)[j] ∉ (nxt n es i).take j := by
    intro h
    obtain ⟨k, hk, e⟩ := List.mem_iff_getElem.1 h
    have hk2 : k < j := by simp at hk; omega
    rw [List.getElem_take] at e
    have := (List.getElem_inj (nxt_nodup n es i)).1 e
    omega
  by_cases e : v = (nxt n es i)[j]
  · subst e
    rw [if_pos rfl, if_pos (.inr rfl), if_neg hnd]
  · rw [if_neg e]
    congr 1
    simp only [e, or_false]
def rd0 (n : Nat) (es : List Edg) (i : Nat) : List Nat := (List.range i).filter fun v => decide (cntW n es [] v = 0)
theorem rd0_succ (n : Nat) (es : List Edg) (i : Nat) : rd0 n es (i + 1) = rd0 n es i ++ (if cntW n es [] i = 0 then [i] else []) := by
  unfold rd0
  rw [List.range_succ, List.filter_append]
  congr 1
  by_cases h : cntW n es [] i = 0 <;> simp [h]
theorem rd0_end {n : Nat} {es : List Edg} (hg : inG n es) : rd0 n es n = rdyL n es [] := by
  unfold rd0 rdyL
  apply List.filter_congr
  intro v _
  rw [Bool.eq_iff_iff]
  simp [cntW_zero hg]
theorem rd0_len (n : Nat) (es : List Edg) (i : Nat) : (rd0 n es i).length ≤ i := by
  have := List.length_filter_le (fun v => decide (cntW n es [] v = 0)) (List.range i)
  simpa [rd0] using this
def wt2 (n : Nat) (es : List Edg) (out : List Nat) (i j v : Nat) : Nat := if v ∈ (nxt n es i).take j then cntW n es (out ++ [i]) v else cntW n es out v
def rdp (n : Nat) (es : List Edg) (out : List Nat) (i j v : Nat) : Bool := (!out.contains v && prOk es out v && !(v == i)) || (((nxt n es i).take j).contains v && prOk es (out ++ [i]) v)
def rd2 (n : Nat) (es : List Edg) (out : List Nat) (i j : Nat) : List Nat := (List.range n).filter (rdp n es out i j)
theorem rd2_len (n : Nat) (es : List Edg) (out : List Nat) (i j : Nat) : (rd2 n es out i j).length ≤ n := by
  have := List.length_filter_le (rdp n es out i j) (List.range n)
  simpa [rd2] using this
theorem nxt_new {n : Nat} {es : List Edg} {i j : Nat} (hj : j < (nxt n es i).length) : (nxt n es i)[j] ∉ (nxt n es i).take j := by
  intro h
  obtain ⟨k, hk, e⟩ := List.mem_iff_getElem.1 h
  have hk2 : k < j := by simp at hk; omega
  rw [List.getElem_take] at e
  have := (List.getElem_inj (nxt_nodup n es i)).1 e
  omega
theorem rd2_zero {n : Nat} {es : List Edg} {out : List Nat} {i : Nat} {r : List Nat} (h : rdyL n es out = i :: r) : rd2 n es out i 0 = r := by
  have hs : (rdyL n es out).Pairwise (· < ·) := List.Pairwise.filter _ List.pairwise_lt_range
  have hm : ∀ v, v ∈ rdyL n es out ↔ v = i ∨ v ∈ r := fun v => by rw [h]; simp
  rw [h, List.pairwise_cons] at hs
  refine strict_extN (List.Pairwise.filter _ List.pairwise_lt_range) hs.2 fun v => ?_
  have h2 := hm v
  simp only [rd2, rdp, List.mem_filter, List.mem_range, List.take_zero, List.contains_nil, Bool.false_and, Bool.or_false, Bool.and_eq_true, Bool.not_eq_true', beq_eq_false_iff_ne]
  simp only [rdyL, List.mem_filter, List.mem_range, Bool.and_eq_true, Bool.not_eq_true'] at h2
  constructor
  · rintro ⟨a, b, c⟩
    rcases h2.1 ⟨a, b⟩ with e | e
    · exact absurd e c
    · exact e
  · intro hv
    obtain ⟨a, b⟩ := h2.2 (.inr hv)
    refine ⟨a, b, ?_⟩
    rintro rfl
    have := hs.1 v hv
    omega
theorem rd2_end {n : Nat} {es : List Edg} {out : List Nat} (h : OrdI n es out) {i : Nat} {r : List Nat} (hr : rdyL n es out = i :: r) : rd2 n es out i (nxt n es i).length = rdyL n es (out ++ [i]) := by
  rw [rdy_step h hr]
  unfold rd2 rdp
  rw [List.take_length]
theorem wt2_end {n : Nat} {es : List Edg} {out : List Nat} {i : Nat} (hi : i < n) (ho : i ∉ out) {v : Nat} (hv : v < n) : wt2 n es out i (nxt n es i).length v = cntW n es (out ++ [i]) v := by
  unfold wt2
  rw [List.take_length]
  split
  · rfl
  · rename_i h
    rw [cntW_step hi ho, if_neg (fun e => h (mem_nxt.2 ⟨hv, e⟩)), Nat.add_zero]
theorem wt2_step {n : Nat} {es : List Edg} {out : List Nat} {i j : Nat} (hj : j < (nxt n es i).length) (v : Nat) : wt2 n es out i (j + 1) v = if v = (nxt n es i)[j] then cntW n es (out ++ [i]) v else wt2 n es out i j v := by
  unfold wt2
  simp only [mem_tk hj]
  by_cases e : v = (nxt n es i)[j]
  · rw [if_pos e, if_pos (.inr e)]
  · rw [if_neg e]
    simp only [e, or_false]
theorem rdp_step {n : Nat} {es : List Edg} {out : List Nat} {i j : Nat} (hj : j < (nxt n es i).length) (v : Nat) : rdp n es out i (j + 1) v = (rdp n es out i j v || (v == (nxt n es i)[j] && prOk es (out ++ [i]) v)) := by
  unfold rdp
  rw [List.take_succ_eq_append_getElem hj]
  rw [Bool.eq_iff_iff]
  simp only [Bool.or_eq_true, Bool.and_eq_true, List.contains_iff_mem, List.mem_append, List.mem_singleton, beq_iff_eq]
  constructor
  · rintro (h | ⟨h | h, h'⟩)
    · exact .inl (.inl h)
    · exact .inl (.inr ⟨h, h'⟩)
    · exact .inr ⟨h, h'⟩
  · rintro ((h | ⟨h, h'⟩) | ⟨h, h'⟩)
    · exact .inl h
    · exact .inr ⟨.inl h, h'⟩
    · exact .inr ⟨.inr h, h'⟩
theorem rd2_same {n : Nat} {es : List Edg} {out : List Nat} {i j : Nat} (hj : j < (nxt n es i).length) (h : prOk es (out ++ [i]) (nxt n es i)[j] = false) : rd2 n es out i (j + 1) = rd2 n es out i j := by
  unfold rd2
  apply List.filter_congr
  intro v _
  rw [rdp_step hj]
  by_cases e : v = (nxt n es i)[j]
  · subst e; simp [h]
  · simp [e]
theorem rd2_ins {n : Nat} {es : List Edg} {out : List Nat} (hI : OrdI n es out) {i : Nat} {r : List Nat} (hr : rdyL n es out = i :: r) {j : Nat} (hj : j < (nxt n es i).length) (h : prOk es (out ++ [i]) (nxt n es i)[j] = true) :
    (rd2 n es out i j).take (posL (rd2 n es out i j) (nxt n es i)[j]) ++ (nxt n es i)[j] :: (rd2 n es out i j).drop (posL (rd2 n es out i j) (nxt n es i)[j]) = rd2 n es out i (j + 1) := by
  obtain ⟨h1, h2⟩ := mem_nxt.1 (List.getElem_mem hj)
  have hi : i ∈ rdyL n es out := by rw [hr]; simp
  obtain ⟨i1, i2, i3⟩ := mem_rdyL.1 hi
  refine ins_filter h1 ?_ (fun v _ => ?_)
  · unfold rdp
    rw [Bool.or_eq_false_iff]
    constructor
    · have : prOk es out (nxt n es i)[j] = false := by
        rw [← Bool.not_eq_true, prOk_iff]
        exact fun h => i2 (h _ h2)
      simp [this]
    · have := nxt_new hj
      simp [this]
  · rw [rdp_step hj]
    by_cases e : v = (nxt n es i)[j]
    · rw [e, h, Bool.and_true]
    · have e' : (v == (nxt n es i)[j]) = false := by simpa using e
      rw [e', Bool.false_and]
theorem rd2_asc (n : Nat) (es : List Edg) (out : List Nat) (i j : Nat) : (rd2 n es out i j).Pairwise (· < ·) := List.Pairwise.filter _ List.pairwise_lt_range
theorem rdyL_len (n : Nat) (es : List Edg) (out : List Nat) : (rdyL n es out).length ≤ n := by
  have := List.length_filter_le (fun v => !out.contains v && prOk es out v) (List.range n)
  simpa [rdyL] using this
end Go.Gv

set_option linter.unusedSimpArgs false
namespace Go.Gv
def ndR (n : Nat) (es : List Edg) : List (List D) := (List.range n).map fun v => [ndD (nxt n es v)]
theorem ndR_get {n v : Nat} (es : List Edg) (h : v < n) : (ndR n es)[v]? = some [ndD (nxt n es v)] := by simp [ndR, h]
theorem wt10 (n : Nat) (es : List Edg) (i : Nat) : wt1 n es i 0 = cntU es i := by funext v; simp [wt1]
theorem wt20 (n : Nat) (es : List Edg) (out : List Nat) (i : Nat) : wt2 n es out i 0 = cntW n es out := by funext v; simp [wt2]
theorem ndR_len (n : Nat) (es : List Edg) : (ndR n es).length = n := by simp [ndR]
theorem intL_get {l : List Nat} {j : Nat} (h : j < l.length) : (intL l)[j]? = some [.int .i64 (l[j] : Int)] := by simp [intL, h]
variable {C : CC} (hC : Closed prog C)
include hC
set_option maxHeartbeats 1000000 in
theorem order_c (hS : SlC C) {b : Bool} {n : Nat} {es : List Edg} (hn : n ≤ 300) (he : es.length ≤ 1000) (hg : inG n es) : C 504 [.int .i64 n, slx b (es.map edK)] (ndD (ordF n es)) [] := by
  have kn := next_c hC hS (b := b) hn he hg
  have enx : nxtD n es = .sl (ndR n es) := rfl
  rw [enx] at kn
  refine start hC (nf := N504_digraph_order) rfl rfl ?_
  simp [N504_digraph_order]
  refine callW_of kn (.inr rfl) ?_
  simp [ndR_len]
  refine ⟨by omega, ?_⟩
  refine loop_of Nat (fun i => [(5, .sl (ndR n es)), (6, .ref (.r 10096) 0 n), (10096, .blk 1 (wtA n (cntU es i))), (25, .sl (ndR n es)), (26, .int .i64 n), (27, .int .i64 i)]) (fun i => i ≤ n) (fun i => n - i) 0 (by simp) (by simp [wtA, cntU, rep_map]) ?_
  rintro i hi
  simp
  refine brB_of (fun h => ?_) (fun h => ?_) <;> simp [h] <;> simp at h
  · have hw : IntKind.wrap .i64 ((i : Int) + 1) = ((i + 1 : Nat) : Int) := wrap_i64 (by omega) (by omega)
    have hlen := nxt_len n es i
    simp [h, idxW_some (ndR_get es h), ndD, intL_len]
    refine loop_of Nat (fun j => [(5, .sl (ndR n es)), (6, .ref (.r 10096) 0 n), (10096, .blk 1 (wtA n (wt1 n es i j))), (25, .sl (ndR n es)), (26, .int .i64 n), (27, .int .i64 i), (31, .sl (intL (nxt n es i))), (32, .int .i64 (nxt n es i).length), (33, .int .i64 j)]) (fun j => j ≤ (nxt n es i).length) (fun j => (nxt n es i).length - j) 0 (by simp) (by simp [wt10, ndD]) ?_
    rintro j hj
    simp
    refine brB_of (fun g => ?_) (fun g => ?_) <;> simp [g] <;> simp at g
    · have hw2 : IntKind.wrap .i64 ((j : Int) + 1) = ((j + 1 : Nat) : Int) := wrap_i64 (by omega) (by omega)
      obtain ⟨k1, k2⟩ := mem_nxt.1 (List.getElem_mem g)
      have kle := cntU_le es i (nxt n es i)[j]
      have hwv : IntKind.wrap .i64 ((wt1 n es i j (nxt n es i)[j] : Int) + 1) = ((wt1 n es i j (nxt n es i)[j] + 1 : Nat) : Int) := wrap_i64 (by omega) (by unfold wt1; split <;> omega)
      simp [g, idxW_some (intL_get g), k1, rowW_some (wtA_get _ k1), wtA_get _ k1, hwv]
      refine ⟨j + 1, by omega, by omega, ?_, hw2⟩
      have e1 := wtA_set (n := n) (v := (nxt n es i)[j]) (wt1 n es i j) (wt1 n es i j (nxt n es i)[j] + 1)
      rw [show ((wt1 n es i j (nxt n es i)[j] + 1 : Nat) : Int) = (wt1 n es i j (nxt n es i)[j] : Int) + 1 by omega] at e1
      rw [e1]
      refine wtA_congr fun v _ => ?_
      rw [wt1_step g]
      split
      · rename_i e; rw [e]
      · rfl
    · have ej : j = (nxt n es i).length := by omega
      subst ej
      simp [hw]
      exact ⟨i + 1, by omega, by omega, wtA_congr fun v hv => wt1_end hv, by omega⟩
  · have ei : n = i := by omega
    subst ei
    clear h hi
    have e0 : wtA n (cntU es n) = wtA n (cntW n es []) := wtA_congr fun v _ => cntU_all n es v
    rw [e0]
    refine loop_of Nat (fun i => [(5, .sl (ndR n es)), (6, .ref (.r 10096) 0 n), (10096, .blk 1 (wtA n (cntW n es []))), (11, .ref (.r 10176) 0 (rd0 n es i).length), (10176, .blk 1 (intL (rd0 n es i))), (12, .ref (.r 10192) 0 0), (10192, .blk 1 []), (45, .ref (.r 10096) 0 n), (46, .int .i64 n), (47, .int .i64 i)]) (fun i => i ≤ n) (fun i => n - i) 0 (by simp) (by simp [rd0, intL]) ?_
    rintro i hi
    simp
    refine brB_of (fun h => ?_) (fun h => ?_) <;> simp [h] <;> simp at h
    · have hw : IntKind.wrap .i64 ((i : Int) + 1) = ((i + 1 : Nat) : Int) := wrap_i64 (by omega) (by omega)
      have hrl := rd0_len n es i
      simp [h, rowW_some (wtA_get _ h), wtA_get _ h]
      refine brB_of (fun c => ?_) (fun c => ?_) <;> simp at c <;> simp [c, intL_len]
      · refine ⟨by omega, i + 1, by omega, by omega, ?_, ?_, hw⟩
        · rw [rd0_succ, if_pos c]; simp
        · rw [intL_take, intL_app, rd0_succ, if_pos c]
      · simp [hw]
        refine ⟨i + 1, by omega, by omega, ?_⟩
        rw [rd0_succ, if_neg c, List.append_nil]
        exact ⟨rfl, rfl, by omega⟩
    · have ei : i = n := by omega
      rw [ei, rd0_end hg]
      clear ei h hi i
      refine loop_of (Nat × Nat × List (List D)) (fun s => [(5, .sl (ndR n es)), (6, .ref (.r 10096) 0 n), (10096, .blk 1 (wtA n (cntW n es (ordN n es s.1)))), (11, .ref (.r 10176) s.2.1 (rdyL n es (ordN n es s.1)).length), (10176, .blk 1 s.2.2), (12, .ref (.r 10192) 0 s.1), (10192, .blk 1 (intL (ordN n es s.1)))])
        (fun s => (ordN n es s.1).length = s.1 ∧ s.2.1 + (rdyL n es (ordN n es s.1)).length ≤ s.2.2.length ∧ (s.2.2.drop s.2.1).take (rdyL n es (ordN n es s.1)).length = intL (rdyL n es (ordN n es s.1))) (fun s => n - s.1) (0, 0, intL (rdyL n es [])) (by simp [ordN, intL_len, intL_take]) (by simp [ordN, intL]) ?_
      rintro ⟨m, k, B⟩ ⟨hm, hkB, hB⟩
      simp only at hm hkB hB
      simp
      have hI := ordN_I n es m
      have hmn := hI.len
      obtain ⟨out, hout⟩ : ∃ out, out = ordN n es m := ⟨_, rfl⟩
      cases hr : rdyL n es (ordN n es m) with
      | nil =>
        have e1 : (intL (ordN n es m)).map (fun e => e.map cellV) = intL (ordN n es m) := by simp [intL, cellV]
        have e2 : (intL (ordN n es m)).take m = intL (ordN n es m) := List.take_of_length_le (by rw [intL_len]; omega)
        simp [hm]
        rw [e1, e2, ordF_of hm hr]
        exact ⟨by rw [intL_len]; omega, rfl⟩
      | cons i r =>
        have hi : i ∈ rdyL n es (ordN n es m) := by rw [hr]; simp
        obtain ⟨i1, i2, i3⟩ := mem_rdyL.1 hi
        have hrl := rdyL_len n es (ordN n es m)
        rw [hr] at hkB hB hrl
        simp only [List.length_cons] at hkB hB hrl
        have hBk : B[k]? = some [.int .i64 (i : Int)] := by
          have := congrArg (fun l => l[0]?) hB
          simpa [intL] using this
        have hBr : (B.drop (k + 1)).take r.length = intL r := by
          have := congrArg (fun l => l.drop 1) hB
          simp only [List.drop_take, List.drop_drop] at this
          simpa [intL] using this
        have hS1 := hI.step hi
        have hsl := hS1.len
        have eN := ordN_succ hr
        have e2 : (intL (ordN n es m)).take m = intL (ordN n es m) := List.take_of_length_le (by rw [intL_len]; omega)
        have hlen := nxt_len n es i
        simp only [List.length_append, List.length_singleton, hm] at hsl
        simp [rowW_some hBk]
        refine ⟨by rw [intL_len]; omega, by omega, ?_⟩
        rw [e2, intL_app, ← eN]
        simp [idxW_some (ndR_get es i1), ndD, intL_len]
        refine loop_of (Nat × Nat × List (List D)) (fun s => [(5, .sl (ndR n es)), (6, .ref (.r 10096) 0 n), (10096, .blk 1 (wtA n (wt2 n es (ordN n es m) i s.1))), (11, .ref (.r 10176) s.2.1 (rd2 n es (ordN n es m) i s.1).length), (10176, .blk 1 s.2.2), (12, .ref (.r 10192) 0 (m + 1)), (10192, .blk 1 (intL (ordN n es (m + 1)))), (74, .sl (intL (nxt n es i))), (75, .int .i64 (nxt n es i).length), (76, .int .i64 s.1)])
          (fun s => s.1 ≤ (nxt n es i).length ∧ s.2.1 + (rd2 n es (ordN n es m) i s.1).length ≤ s.2.2.length ∧ (s.2.2.drop s.2.1).take (rd2 n es (ordN n es m) i s.1).length = intL (rd2 n es (ordN n es m) i s.1)) (fun s => (nxt n es i).length - s.1) (0, k + 1, B) (by simp [rd2_zero hr]; exact ⟨by omega, hBr⟩) (by simp [rd2_zero hr, ndD, wt20]) ?_
        rintro ⟨j, k', B'⟩ ⟨hj, hkB', hB'⟩
        simp only at hj hkB' hB'
        simp
        refine brB_of (fun g => ?_) (fun g => ?_) <;> simp [g] <;> simp at g
        · have hw2 : IntKind.wrap .i64 ((j : Int) + 1) = ((j + 1 : Nat) : Int) := wrap_i64 (by omega) (by omega)
          obtain ⟨k1, k2⟩ := mem_nxt.1 (List.getElem_mem g)
          have hw0 : wt2 n es (ordN n es m) i j (nxt n es i)[j] = cntW n es (ordN n es m ++ [i]) (nxt n es i)[j] + 1 := by
            unfold wt2
            rw [if_neg (nxt_new g), cntW_step i1 i2, if_pos k2]
          have hcl : cntW n es (ordN n es m ++ [i]) (nxt n es i)[j] ≤ n := by
            have := List.length_filter_le (fun u => es.contains (u, (nxt n es i)[j]) && !(ordN n es m ++ [i]).contains u) (List.range n)
            simpa [cntW] using this
          have hwv : IntKind.wrap .i64 ((wt2 n es (ordN n es m) i j (nxt n es i)[j] : Int) - 1) = (cntW n es (ordN n es m ++ [i]) (nxt n es i)[j] : Int) := wrap_i64 (by omega) (by omega)
          have ew := wtA_set (n := n) (v := (nxt n es i)[j]) (wt2 n es (ordN n es m) i j) (cntW n es (ordN n es m ++ [i]) (nxt n es i)[j])
          have ew2 : (wtA n fun u => if u = (nxt n es i)[j] then cntW n es (ordN n es m ++ [i]) (nxt n es i)[j] else wt2 n es (ordN n es m) i j u) = wtA n (wt2 n es (ordN n es m) i (j + 1)) := wtA_congr fun v _ => by
            rw [wt2_step g]
            by_cases e : v = (nxt n es i)[j]
            · rw [if_pos e, if_pos e, e]
            · rw [if_neg e, if_neg e]
          rw [ew2] at ew
          have hwn : wt2 n es (ordN n es m) i (j + 1) (nxt n es i)[j] = cntW n es (ordN n es m ++ [i]) (nxt n es i)[j] := by rw [wt2_step g, if_pos rfl]
          simp [g, idxW_some (intL_get g), k1, rowW_some (wtA_get _ k1), wtA_get _ k1, hwv, ew, hwn]
          have hl2 := rd2_len n es (ordN n es m) i j
          have p0 := cntW_zero hg (out := ordN n es m ++ [i]) (k := (nxt n es i)[j])
          refine brB_of (fun c => ?_) (fun c => ?_) <;> simp at c
          · have pk := p0.1 c
            have hins := rd2_ins hI hr g pk
            have kb := bsearch_c hC (rd2 n es (ordN n es m) i j) (nxt n es i)[j] (rd2_asc n es _ i j) (by omega)
            have hpl := posL_le (rd2 n es (ordN n es m) i j) (nxt n es i)[j]
            have kI := hS.insert ((rd2 n es (ordN n es m) i j).map fun k : Nat => (k : Int)) (posL (rd2 n es (ordN n es m) i j) (nxt n es i)[j]) (nxt n es i)[j] (by simpa using hpl) (by simp; omega)
            have eI : ((((rd2 n es (ordN n es m) i j).map fun k : Nat => (k : Int)).take (posL (rd2 n es (ordN n es m) i j) (nxt n es i)[j]) ++ ((nxt n es i)[j] : Int) :: ((rd2 n es (ordN n es m) i j).map fun k : Nat => (k : Int)).drop (posL (rd2 n es (ordN n es m) i j) (nxt n es i)[j])).map fun n => [D.int .i64 n]) = intL (rd2 n es (ordN n es m) i (j + 1)) := by
              rw [← hins]
              simp [intL]
              rfl
            rw [eI, ← intL_cast] at kI
            have e4 : (intL (rd2 n es (ordN n es m) i j)).map (fun e => e.map cellV) = intL (rd2 n es (ordN n es m) i j) := by simp [intL, cellV]
            have e5 : (((B'.drop k').take (rd2 n es (ordN n es m) i j).length).map fun e => e.map cellV) = intL (rd2 n es (ordN n es m) i j) := by rw [hB', e4]
            simp [hkB']
            simp at e5
            rw [e5]
            refine callW_of kb (.inl rfl) ?_
            simp [hkB', hB']
            refine ⟨fun e he => (intL_F1 e he).2, ?_⟩
            refine eatW_of kI intL_F1 ?_
            simp [hw2, intL_len]
            exact ⟨j + 1, 0, intL (rd2 n es (ordN n es m) i (j + 1)), ⟨by omega, by simp [intL_len], by simp [intL_take]⟩, by omega, by simp⟩
          · have pk : prOk es (ordN n es m ++ [i]) (nxt n es i)[j] = false := by
              rw [← Bool.not_eq_true]
              exact fun e => c (p0.2 e)
            have hsame := rd2_same g pk
            simp [hw2]
            exact ⟨j + 1, k', B', ⟨by omega, by rw [hsame]; exact hkB', by rw [hsame]; exact hB'⟩, by omega, by simp [hsame]⟩
        · have ej : j = (nxt n es i).length := by omega
          subst ej
          have er := rd2_end hI hr
          rw [← eN] at er
          rw [er] at hkB' hB' ⊢
          exact ⟨m + 1, k', B', ⟨by rw [eN]; simp [hm], hkB', hB'⟩, by omega, wtA_congr fun v hv => by rw [wt2_end i1 i2 hv, eN], by simp⟩
end Go.Gv

set_option linter.unusedSimpArgs false
namespace Go.Gv
structure Lnk where
  name : List UInt8
  src : List UInt8
  dst : List UInt8
  kind : Int
  len : Int
  up : Int
  down : Int
  sect : List UInt8
  width : Int
  height : Int
  curveN : Bool
  curve : List (Int × Int)
  deriving Inhabited
def lnkC (l : Lnk) : List D := [.str l.name, .str l.src, .str l.dst, .int .i64 l.kind, .int .i64 l.len, .int .i64 l.up, .int .i64 l.down, .str l.sect, .int .i64 l.width, .int .i64 l.height, slx l.curveN (l.curve.map knD)]
structure Nod where
  name : List UInt8
  kind : Int
  x : Int
  y : Int
  invert : Int
  ground : Int
  shapeN : Bool
  shape : List (Int × Int)
  prot : Bool
  reserve : Int
  deriving Inhabited
def nodC (n : Nod) : List D := [.str n.name, .int .i64 n.kind, .int .i64 n.x, .int .i64 n.y, .int .i64 n.invert, .int .i64 n.ground, slx n.shapeN (n.shape.map knD), .bool n.prot, .int .i64 n.reserve]
def lvlOk (n : Int) : Bool := decide (-4194304 ≤ n) && decide (n ≤ 4194304)
variable {C : CC} (hC : Closed prog C)
include hC
theorem between_c (n a b : Int) : C 172 [.int .i64 n, .int .i64 a, .int .i64 b] (.bool (decide (a ≤ n) && decide (n ≤ b))) [] := by
  refine start hC (nf := N172_network_between) rfl rfl ?_
  simp [N172_network_between]
  refine brB_of (fun h => ?_) (fun h => ?_) <;> simp at h <;> simp [h] <;> omega
theorem lvlBad_c (n : Int) : C 183 [.int .i64 n] (.bool (!lvlOk n)) [] := by
  have e : (!lvlOk n) = (decide (n < -4194304) || decide (4194304 < n)) := by
    rw [lvlOk, Bool.eq_iff_iff]
    simp only [Bool.not_eq_true', Bool.and_eq_false_iff, decide_eq_false_iff_not, Bool.or_eq_true, decide_eq_true_eq]
    omega
  rw [e]
  refine start hC (nf := N183_network_level_1) rfl rfl ?_
  simp [N183_network_level_1]
  refine brB_of (fun h => ?_) (fun h => ?_) <;> simp at h <;> simp [h]
  intro _; omega
theorem level_c (xs : List Int) (hl : xs.length < 2 ^ 62) : C 173 [.sl (xs.map fun n => [.int .i64 n])] (.bool (xs.all lvlOk)) [] := by
  refine start hC (nf := N173_network_level) rfl rfl ?_
  simp [N173_network_level]
  have h := hasInt_c hC (b := false) (xs := xs) (g := 183) (cs := []) (fun n => !lvlOk n) hl (fun n _ => lvlBad_c hC n)
  rw [slx_false] at h
  refine callW_of h (.inl rfl) ?_
  simp
  rw [Bool.eq_iff_iff]; simp
end Go.Gv

set_option linter.unusedSimpArgs false
namespace Go.Gv
def nodIs (nm : List UInt8) (n : Nod) : Bool := n.name == nm
def lnkIs (nm : List UInt8) (l : Lnk) : Bool := l.name == nm
variable {C : CC} (hC : Closed prog C)
include hC
theorem idxNod_c {b : Bool} {xs : List Nod} {g : Nat} {cs : List D} (p : Nod → Bool) (hs : xs.length < 2 ^ 62) (hp : ∀ x ∈ xs, C g (.agg (nodC x) :: cs) (.bool (p x)) []) : C 175 [slx b (xs.map fun x => nodC x), .fn g cs] (.int .i64 (idxD p xs)) [] := by
  refine start hC (nf := N175_slices_IndexFunc__api_Node_api_Node) rfl rfl ?_
  simp [N175_slices_IndexFunc__api_Node_api_Node]
  refine loop_of Nat (fun i => [(0, slx b (xs.map fun x => nodC x)), (1, .fn g cs), (7, .int .i64 xs.length), (8, .int .i64 i)]) (fun i => i ≤ xs.length ∧ ∀ (j : Nat) (h : j < xs.length), j < i → p xs[j] = false) (fun i => xs.length - i) 0 (by simp) (by simp) ?_
  rintro i ⟨hi, hj⟩
  simp
  refine brB_of (fun h => ?_) (fun h => ?_) <;> simp [h] <;> simp at h
  · have hw : IntKind.wrap .i64 ((i : Int) + 1) = ((i + 1 : Nat) : Int) := wrap_i64 (by omega) (by omega)
    have hc := hp _ (List.getElem_mem h)
    simp [h, nodC] at hc ⊢
    refine callW_of hc (.inl rfl) ?_
    simp
    refine brB_of (fun h1 => ?_) (fun h1 => ?_) <;> simp [h1, hw]
    · rw [idxD_step hj h h1]
    · refine ⟨i + 1, ⟨by omega, fun j hl hjj => ?_⟩, by omega, rfl⟩
      rcases Nat.lt_succ_iff_lt_or_eq.1 hjj with h2 | rfl
      · exact hj j hl h2
      · exact h1
  · rw [idxD_none (fun j hl => hj j hl (by omega))]
theorem idxLnk_c {b : Bool} {xs : List Lnk} {g : Nat} {cs : List D} (p : Lnk → Bool) (hs : xs.length < 2 ^ 62) (hp : ∀ x ∈ xs, C g (.agg (lnkC x) :: cs) (.bool (p x)) []) : C 181 [slx b (xs.map fun x => lnkC x), .fn g cs] (.int .i64 (idxD p xs)) [] := by
  refine start hC (nf := N181_slices_IndexFunc__api_Link_api_Link) rfl rfl ?_
  simp [N181_slices_IndexFunc__api_Link_api_Link]
  refine loop_of Nat (fun i => [(0, slx b (xs.map fun x => lnkC x)), (1, .fn g cs), (7, .int .i64 xs.length), (8, .int .i64 i)]) (fun i => i ≤ xs.length ∧ ∀ (j : Nat) (h : j < xs.length), j < i → p xs[j] = false) (fun i => xs.length - i) 0 (by simp) (by simp) ?_
  rintro i ⟨hi, hj⟩
  simp
  refine brB_of (fun h => ?_) (fun h => ?_) <;> simp [h] <;> simp at h
  · have hw : IntKind.wrap .i64 ((i : Int) + 1) = ((i + 1 : Nat) : Int) := wrap_i64 (by omega) (by omega)
    have hc := hp _ (List.getElem_mem h)
    simp [h, lnkC] at hc ⊢
    refine callW_of hc (.inl rfl) ?_
    simp
    refine brB_of (fun h1 => ?_) (fun h1 => ?_) <;> simp [h1, hw]
    · rw [idxD_step hj h h1]
    · refine ⟨i + 1, ⟨by omega, fun j hl hjj => ?_⟩, by omega, rfl⟩
      rcases Nat.lt_succ_iff_lt_or_eq.1 hjj with h2 | rfl
      · exact hj j hl h2
      · exact h1
  · rw [idxD_none (fun j hl => hj j hl (by omega))]
theorem idxKn_c {b : Bool} {xs : List (Int × Int)} {g : Nat} {cs : List D} (p : (Int × Int) → Bool) (hs : xs.length < 2 ^ 62) (hp : ∀ x ∈ xs, C g (.agg (knD x) :: cs) (.bool (p x)) []) : C 185 [slx b (xs.map fun x => knD x), .fn g cs] (.int .i64 (idxD p xs)) [] := by
  refine start hC (nf := N185_slices_IndexFunc_api_Table_api_Knot) rfl rfl ?_
  simp [N185_slices_IndexFunc_api_Table_api_Knot]
  refine loop_of Nat (fun i => [(0, slx b (xs.map fun x => knD x)), (1, .fn g cs), (7, .int .i64 xs.length), (8, .int .i64 i)]) (fun i => i ≤ xs.length ∧ ∀ (j : Nat) (h : j < xs.length), j < i → p xs[j] = false) (fun i => xs.length - i) 0 (by simp) (by simp) ?_
  rintro i ⟨hi, hj⟩
  simp
  refine brB_of (fun h => ?_) (fun h => ?_) <;> simp [h] <;> simp at h
  · have hw : IntKind.wrap .i64 ((i : Int) + 1) = ((i + 1 : Nat) : Int) := wrap_i64 (by omega) (by omega)
    have hc := hp _ (List.getElem_mem h)
    simp [h, knD] at hc ⊢
    refine callW_of hc (.inl rfl) ?_
    simp
    refine brB_of (fun h1 => ?_) (fun h1 => ?_) <;> simp [h1, hw]
    · rw [idxD_step hj h h1]
    · refine ⟨i + 1, ⟨by omega, fun j hl hjj => ?_⟩, by omega, rfl⟩
      rcases Nat.lt_succ_iff_lt_or_eq.1 hjj with h2 | rfl
      · exact hj j hl h2
      · exact h1
  · rw [idxD_none (fun j hl => hj j hl (by omega))]
theorem hasKn_c {b : Bool} {xs : List (Int × Int)} {g : Nat} {cs : List D} (p : (Int × Int) → Bool) (hs : xs.length < 2 ^ 62) (hp : ∀ x ∈ xs, C g (.agg (knD x) :: cs) (.bool (p x)) []) : C 179 [slx b (xs.map fun x => knD x), .fn g cs] (.bool (xs.any p)) [] := by
  refine start hC (nf := N179_slices_ContainsFunc_api_Table_api_Knot) rfl rfl ?_
  simp [N179_slices_ContainsFunc_api_Table_api_Knot]
  refine callW_of (idxKn_c hC p hs hp) (.inl rfl) ?_
  simp [idxD_any]
theorem node_c (b1 b2 : Bool) (ns : List Nod) (ls : List Lnk) (nm : List UInt8) (hn : ns.length < 2 ^ 62) : C 169 [.agg [slx b1 (ns.map nodC), slx b2 (ls.map lnkC)], .str nm] (.int .i64 (idxD (nodIs nm) ns)) [] := by
  have h1 : ∀ x ∈ ns, C 176 (.agg (nodC x) :: [.ptr [.str nm]]) (.bool (nodIs nm x)) [] := fun x _ => by
    refine start hC (nf := N176_network_node_1) rfl rfl ?_
    simp [N176_network_node_1, nodC, nodIs]
    rw [Bool.eq_iff_iff]; simp
  refine start hC (nf := N169_network_node) rfl rfl ?_
  simp [N169_network_node]
  refine callW_of (idxNod_c hC (b := b1) _ hn h1) (.inl rfl) ?_
  simp
theorem link_c (b1 b2 : Bool) (ns : List Nod) (ls : List Lnk) (nm : List UInt8) (hn : ls.length < 2 ^ 62) : C 171 [.agg [slx b1 (ns.map nodC), slx b2 (ls.map lnkC)], .str nm] (.int .i64 (idxD (lnkIs nm) ls)) [] := by
  have h1 : ∀ x ∈ ls, C 182 (.agg (lnkC x) :: [.ptr [.str nm]]) (.bool (lnkIs nm x)) [] := fun x _ => by
    refine start hC (nf := N182_network_link_1) rfl rfl ?_
    simp [N182_network_link_1, lnkC, lnkIs]
    rw [Bool.eq_iff_iff]; simp
  refine start hC (nf := N171_network_link) rfl rfl ?_
  simp [N171_network_link]
  refine callW_of (idxLnk_c hC (b := b2) _ hn h1) (.inl rfl) ?_
  simp
theorem eqKn_c (b b' : Bool) (xs ys : List (Int × Int)) (hx : xs.length < 2 ^ 62) (hy : ys.length < 2 ^ 62) : C 184 [slx b (xs.map knD), slx b' (ys.map knD)] (.bool (decide (xs = ys))) [] := by
  obtain ⟨r, hr⟩ : ∃ r, r = decide (xs = ys) := ⟨_, rfl⟩
  rw [← hr]
  refine start hC (nf := N184_slices_Equal_api_Table_api_Knot) rfl rfl ?_
  simp [N184_slices_Equal_api_Table_api_Knot]
  refine brB_of (fun h => ?_) (fun h => ?_) <;> simp at h <;> simp [h]
  · rw [hr, decide_eq_false]
    intro e
    exact h (by rw [e])
  have h' : xs.length = ys.length := by omega
  refine loop_of Nat (fun i => [(0, slx b (xs.map knD)), (1, slx b' (ys.map knD)), (12, .int .i64 xs.length), (13, .int .i64 i)])
    (fun i => i ≤ xs.length ∧ ∀ (k : Nat) (h1 : k < xs.length) (h2 : k < ys.length), k < i → xs[k] = ys[k]) (fun i => xs.length - i) 0 (by simp) (by simp [h']) ?_
  rintro i ⟨hi, hok⟩
  simp
  refine brB_of (fun h1 => ?_) (fun h1 => ?_) <;> simp at h1 <;> simp [h1]
  · have hw : IntKind.wrap .i64 ((i : Int) + 1) = ((i + 1 : Nat) : Int) := wrap_i64 (by omega) (by omega)
    have hy1 : i < ys.length := by omega
    simp [h1, hy1, knD]
    refine ⟨indW_of (by decide +kernel), ?_⟩
    by_cases h2 : xs[i] = ys[i]
    · simp [h2, hw]
      refine ⟨i + 1, ⟨by omega, fun k k1 k2 hk => ?_⟩, by omega, rfl⟩
      rcases Nat.lt_succ_iff_lt_or_eq.1 hk with h5 | rfl
      · exact hok k k1 k2 h5
      · exact h2
    · have h3 : ¬ (xs[i].1 = ys[i].1 ∧ xs[i].2 = ys[i].2) := fun e => h2 (Prod.ext e.1 e.2)
      refine brB_of (fun h4 => ?_) (fun h4 => ?_) <;> simp at h4 <;> simp [h4]
      · rw [hr, decide_eq_false]
        intro e
        exact h2 (by simp [e])
      · exact absurd h4 h3
  · rw [hr, decide_eq_true]
    exact List.ext_getElem h' fun k k1 k2 => hok k k1 k2 (by omega)
end Go.Gv

set_option linter.unusedSimpArgs false
namespace Go.Gv
def lastK (t : List (Int × Int)) : Int × Int := t[t.length - 1]!
def curveOk (t : List (Int × Int)) (hgt most : Int) : Bool := tableValid t && (t[0]!.1 == 0 && t[0]!.2 == 0) && (lastK t).1 == hgt && (lastK t).2 ≤ most
def secValid (s : Sec) : Bool := isName s.name && 1 ≤ s.height && s.height ≤ 32768 && 0 ≤ s.price && s.price ≤ 1073741824 && curveOk s.area s.height 1073741824 && curveOk s.conv s.height 1099511627776
def slopeOk (n l : Int) : Bool := 0 ≤ n && n ≤ 4194304 && 1 ≤ l && l ≤ 16777216
def capN (s : Sec) (fall len : Int) : Nat := rootN ((lastK s.conv).2.toNat * (lastK s.conv).2.toNat * fall.toNat / len.toNat)
def fullF (s : Sec) (fall len : Int) : Int × Int := if secValid s then (if slopeOk fall len then (if 1099511627776 < capN s fall len then (0, 5) else (capN s fall len, 0)) else (0, 2)) else (0, 1)
theorem lastK_get {t : List (Int × Int)} {n : Nat} (hn : n + 1 = t.length) : lastK t = t[n] := by
  unfold lastK
  rw [show t.length - 1 = n by omega, getElem!_pos t n (by omega)]
variable {C : CC} (hC : Closed prog C)
include hC
theorem curve_c (b : Bool) (t : List (Int × Int)) (hgt most : Int) : C 59 [slx b (t.map knD), .int .i64 hgt, .int .i64 most] (.bool (curveOk t hgt most)) [] := by
  refine start hC (nf := N59_catalogue_curve) rfl rfl ?_
  simp [N59_catalogue_curve]
  refine callW_of (tableValid_c hC b t) (.inl rfl) ?_
  cases hv : tableValid t
  · simp [curveOk, hv]
  obtain ⟨l1, l2⟩ := valid_len hv
  obtain ⟨n, hn⟩ : ∃ n, n + 1 = t.length := ⟨t.length - 1, by omega⟩
  have e1 : IntKind.wrap .i64 ((t.length : Int) - 1) = (n : Int) := wrap_i64 (by omega) (by omega)
  have hnl : n < t.length := by omega
  have h0 : 0 < t.length := by omega
  have e0 : t[0]! = t[0] := getElem!_pos t 0 h0
  simp [e1, hnl, h0, knD]
  rw [curveOk, lastK_get hn, e0, hv]
  have ez : (decide (t[0].fst = 0) && decide (t[0].snd = 0)) = (t[0].1 == 0 && t[0].2 == 0) := by rw [Bool.eq_iff_iff]; simp
  rw [← ez]
  cases hz : (decide (t[0].fst = 0) && decide (t[0].snd = 0))
  · simp
  simp
  refine brB_of (fun c => ?_) (fun c => ?_)
  · simp at c
    simp [c]
  · simp at c
    simp [c]
theorem valid_c (s : Sec) : C 51 [.agg (secC s)] (.bool (secValid s)) [] := by
  refine start hC (nf := N51_catalogue_valid) rfl rfl ?_
  simp [N51_catalogue_valid, secC]
  refine callW_of (IsName_c hC s.name) (.inl rfl) ?_
  cases h1 : isName s.name
  · simp [secValid, h1]
  simp
  refine brB_of (fun c1 => ?_) (fun c1 => ?_) <;> simp [c1] <;> simp at c1
  · refine brB_of (fun c2 => ?_) (fun c2 => ?_) <;> simp [c2] <;> simp at c2
    · refine brB_of (fun c3 => ?_) (fun c3 => ?_) <;> simp [c3] <;> simp at c3
      · refine brB_of (fun c4 => ?_) (fun c4 => ?_) <;> simp [c4] <;> simp at c4
        · refine callW_of (curve_c hC _ _ _ _) (.inl rfl) ?_
          cases h5 : curveOk s.area s.height 1073741824
          · simp [secValid, h5]
          simp
          refine callW_of (curve_c hC _ _ _ _) (.inl rfl) ?_
          simp [secValid, h1, c1, c2, c3, c4, h5]
        · simp [secValid]; omega
      · simp [secValid]; omega
    · simp [secValid]; omega
  · simp [secValid]; omega
end Go.Gv

set_option linter.unusedSimpArgs false
namespace Go.Gv
def lowHigh (n a b : Int) : Bool := decide (a ≤ n) && decide (n ≤ b)
def plainF (l : Lnk) : Lnk where
  name := l.name
  src := l.src
  dst := l.dst
  kind := l.kind
  len := if l.kind = 1 then l.len else 0
  up := l.up
  down := if l.kind = 1 ∨ l.kind = 4 then l.down else 0
  sect := if l.kind = 1 then l.sect else []
  width := if l.kind = 2 ∨ l.kind = 3 then l.width else 0
  height := if l.kind = 3 then l.height else 0
  curveN := if l.kind = 4 then l.curveN else true
  curve := if l.kind = 4 then l.curve else []
def sameL (a b : Lnk) : Bool := decide (a.name = b.name) && decide (a.src = b.src) && decide (a.dst = b.dst) && decide (a.kind = b.kind) && decide (a.len = b.len) && decide (a.up = b.up) && decide (a.down = b.down) && decide (a.sect = b.sect) && decide (a.width = b.width) && decide (a.height = b.height) && decide (a.curve = b.curve)
def pumpOk (k : Int × Int) : Bool := lowHigh k.1 0 4194304 && lowHigh k.2 0 1099511627776
def kindOk (l : Lnk) : Bool :=
  if l.kind = 1 then lowHigh l.len 1 16777216 && lvlOk l.down && isName l.sect
  else if l.kind = 2 then lowHigh l.width 1 1048576
  else if l.kind = 3 then lowHigh l.width 1 32768 && lowHigh l.height 1 32768
  else if l.kind = 4 then lvlOk l.down && decide (l.down < l.up) && tableValid l.curve && !(l.curve.any fun k => !pumpOk k)
  else false
def linkOk (l : Lnk) : Bool := isName l.name && isName l.src && isName l.dst && !decide (l.src = l.dst) && lvlOk l.up && sameL l (plainF l) && kindOk l
variable {C : CC} (hC : Closed prog C)
include hC
theorem plain_c (l : Lnk) : C 178 [.agg (lnkC l)] (.agg (lnkC (plainF l))) [] := by
  have hs : slx l.curveN (l.curve.map knD) = .nils ∨ slx l.curveN (l.curve.map knD) = .sl (l.curve.map knD) := by
    unfold slx; split
    · exact .inl rfl
    · exact .inr rfl
  have e0 : D.nils = slx true [] := rfl
  refine start hC (nf := N178_network_plain) rfl rfl ?_
  simp [N178_network_plain, lnkC, plainF]
  refine brB_of (fun h => ?_) (fun h => ?_) <;> simp at h <;> simp [h]
  · exact ⟨indW_of (by decide +kernel), e0⟩
  refine brB_of (fun h2 => ?_) (fun h2 => ?_) <;> simp at h2 <;> simp [h, h2]
  · exact e0
  refine brB_of (fun h3 => ?_) (fun h3 => ?_) <;> simp at h3 <;> simp [h, h2, h3]
  · exact ⟨indW_of (by decide +kernel), e0⟩
  refine brB_of (fun h4 => ?_) (fun h4 => ?_) <;> simp at h4 <;> simp [h, h2, h3, h4]
  · rcases hs with hs | hs <;> rw [hs] <;> simp
    · refine ⟨indW_of (by decide +kernel), ?_⟩
      simp [h4, hs]
    · refine ⟨indW_of (by decide +kernel), ?_⟩
      simp [h4, hs]
  · exact e0
set_option maxRecDepth 8000 in
set_option maxHeartbeats 2000000 in
theorem sameL_c (a b : Lnk) (ha : a.curve.length < 2 ^ 62) (hb : b.curve.length < 2 ^ 62) : C 177 [.agg (lnkC a), .agg (lnkC b)] (.bool (sameL a b)) [] := by
  have he := eqKn_c hC a.curveN b.curveN a.curve b.curve ha hb
  refine start hC (nf := N177_network_sameLink) rfl rfl ?_
  simp [N177_network_sameLink, lnkC]
  refine brB_of (fun h0 => ?_) (fun h0 => ?_) <;> simp at h0 <;> simp [h0]
  rotate_left
  · simp [sameL, h0]
  refine brB_of (fun h1 => ?_) (fun h1 => ?_) <;> simp at h1 <;> simp [h1]
  rotate_left
  · simp [sameL, h1]
  refine brB_of (fun h2 => ?_) (fun h2 => ?_) <;> simp at h2 <;> simp [h2]
  rotate_left
  · simp [sameL, h2]
  refine brB_of (fun h3 => ?_) (fun h3 => ?_) <;> simp at h3 <;> simp [h3]
  rotate_left
  · simp [sameL, h3]
  refine brB_of (fun h4 => ?_) (fun h4 => ?_) <;> simp at h4 <;> simp [h4]
  rotate_left
  · simp [sameL, h4]
  refine brB_of (fun h5 => ?_) (fun h5 => ?_) <;> simp at h5 <;> simp [h5]
  rotate_left
  · simp [sameL, h5]
  refine brB_of (fun h6 => ?_) (fun h6 => ?_) <;> simp at h6 <;> simp [h6]
  rotate_left
  · simp [sameL, h6]
  refine brB_of (fun h7 => ?_) (fun h7 => ?_) <;> simp at h7 <;> simp [h7]
  rotate_left
  · simp [sameL, h7]
  refine brB_of (fun h8 => ?_) (fun h8 => ?_) <;> simp at h8 <;> simp [h8]
  rotate_left
  · simp [sameL, h8]
  refine brB_of (fun h9 => ?_) (fun h9 => ?_) <;> simp at h9 <;> simp [h9]
  rotate_left
  · simp [sameL, h9]
  refine callW_of he (.inl rfl) ?_
  simp [sameL, h0, h1, h2, h3, h4, h5, h6, h7, h8, h9]
theorem pumpBad_c (k : Int × Int) : C 180 [.agg (knD k)] (.bool (!pumpOk k)) [] := by
  refine start hC (nf := N180_network_rightLink_1) rfl rfl ?_
  simp [N180_network_rightLink_1, knD]
  refine callW_of (between_c hC k.1 0 4194304) (.inl rfl) ?_
  have e1 : (decide (0 ≤ k.1) && decide (k.1 ≤ 4194304)) = lowHigh k.1 0 4194304 := rfl
  rw [e1]
  cases h : lowHigh k.1 0 4194304
  · simp [pumpOk, h]
  simp
  refine callW_of (between_c hC k.2 0 1099511627776) (.inl rfl) ?_
  have e2 : (decide (0 ≤ k.2) && decide (k.2 ≤ 1099511627776)) = lowHigh k.2 0 1099511627776 := rfl
  rw [e2]
  simp [pumpOk, h]
theorem linkOk_c (l : Lnk) (hc : l.curve.length < 2 ^ 62) : C 170 [.agg (lnkC l)] (.bool (linkOk l)) [] := by
  have hp : (plainF l).curve.length < 2 ^ 62 := by
    simp only [plainF]; split
    · exact hc
    · simp
  have k1 := IsName_c hC l.name
  have k2 := IsName_c hC l.src
  have k3 := IsName_c hC l.dst
  have k4 := level_c hC [l.up] (by simp)
  have k5 := plain_c hC l
  have k6 := sameL_c hC l (plainF l) hc hp
  obtain ⟨q, hq⟩ : ∃ q, q = sameL l (plainF l) := ⟨_, rfl⟩
  rw [← hq] at k6
  simp only [lnkC] at k5 k6
  have kf : ∀ b, kindOk l = b → (b = false ∨ (isName l.name = true ∧ isName l.src = true ∧ isName l.dst = true ∧ ¬ l.src = l.dst ∧ lvlOk l.up = true ∧ q = true)) → linkOk l = b := fun b h1 h2 => by
    rcases h2 with rfl | ⟨a1, a2, a3, a4, a5, a6⟩
    · simp [linkOk, h1]
    · simp [linkOk, h1, a1, a2, a3, a4, a5, ← hq, a6]
  refine start hC (nf := N170_network_rightLink) rfl rfl ?_
  simp [N170_network_rightLink, lnkC]
  refine callW_of k1 (.inl rfl) ?_
  cases h1 : isName l.name
  · simp
    refine ⟨indW_of (by decide +kernel), ?_⟩
    simp [linkOk, h1]
  simp
  refine callW_of k2 (.inl rfl) ?_
  cases h2 : isName l.src
  · simp
    refine ⟨indW_of (by decide +kernel), ?_⟩
    simp [linkOk, h2]
  simp
  refine callW_of k3 (.inl rfl) ?_
  cases h3 : isName l.dst
  · simp
    refine ⟨indW_of (by decide +kernel), ?_⟩
    simp [linkOk, h3]
  simp
  refine brB_of (fun h4 => ?_) (fun h4 => ?_) <;> simp at h4 <;> simp [h4]
  · refine ⟨indW_of (by decide +kernel), ?_⟩
    simp [linkOk, h4]
  refine callW_of k4 (.inl rfl) ?_
  cases h5 : lvlOk l.up
  · simp [h5]
    refine ⟨indW_of (by decide +kernel), ?_⟩
    simp [linkOk, h5]
  simp [h5]
  refine callW_of k5 (.inr rfl) ?_
  simp
  refine callW_of k6 (.inl rfl) ?_
  cases h6 : q
  · simp
    refine ⟨indW_of (by decide +kernel), ?_⟩
    simp [linkOk, ← hq, h6]
  simp
  refine ⟨indW_of (by decide +kernel), ?_⟩
  have hk : linkOk l = kindOk l := kf _ rfl (.inr ⟨h1, h2, h3, h4, h5, h6⟩)
  rw [hk]
  obtain ⟨r, hr⟩ : ∃ r, r = kindOk l := ⟨_, rfl⟩
  rw [← hr]
  unfold kindOk at hr
  clear k1 k2 k3 k4 k5 k6 hk kf
  have lh : ∀ n a b : Int, (decide (a ≤ n) && decide (n ≤ b)) = lowHigh n a b := fun _ _ _ => rfl
  have kd := level_c hC [l.down] (by simp)
  refine brB_of (fun h7 => ?_) (fun h7 => ?_) <;> simp at h7 <;> simp [h7]
  · rw [if_pos h7] at hr
    refine callW_of (between_c hC l.len 1 16777216) (.inl rfl) ?_
    rw [lh]
    cases a1 : lowHigh l.len 1 16777216
    · simp [hr, a1]
    simp
    refine callW_of kd (.inl rfl) ?_
    cases a2 : lvlOk l.down
    · simp [a2, hr]
    simp [a2]
    refine callW_of (IsName_c hC l.sect) (.inl rfl) ?_
    simp [hr, a1, a2]
  rw [if_neg h7] at hr
  refine brB_of (fun h8 => ?_) (fun h8 => ?_) <;> simp at h8 <;> simp [h8]
  · rw [if_pos h8] at hr
    refine callW_of (between_c hC l.width 1 1048576) (.inl rfl) ?_
    rw [lh]
    simp [hr]
  rw [if_neg h8] at hr
  refine brB_of (fun h9 => ?_) (fun h9 => ?_) <;> simp at h9 <;> simp [h9]
  · rw [if_pos h9] at hr
    refine callW_of (between_c hC l.width 1 32768) (.inl rfl) ?_
    rw [lh]
    cases a1 : lowHigh l.width 1 32768
    · simp [hr, a1]
    simp
    refine callW_of (between_c hC l.height 1 32768) (.inl rfl) ?_
    rw [lh]
    simp [hr, a1]
  rw [if_neg h9] at hr
  refine brB_of (fun h10 => ?_) (fun h10 => ?_) <;> simp at h10 <;> simp [h10]
  · rw [if_pos h10] at hr
    refine callW_of kd (.inl rfl) ?_
    cases a2 : lvlOk l.down
    · simp [a2, hr]
    simp [a2]
    refine brB_of (fun h11 => ?_) (fun h11 => ?_) <;> simp at h11 <;> simp [h11]
    · refine callW_of (tableValid_c hC l.curveN l.curve) (.inl rfl) ?_
      cases a3 : tableValid l.curve
      · simp [hr, a3]
      simp
      refine callW_of (hasKn_c hC (b := l.curveN) (xs := l.curve) (g := 180) (cs := []) (fun k => !pumpOk k) hc (fun k _ => pumpBad_c hC k)) (.inl rfl) ?_
      simp [hr, a2, h11, a3]
    · have : ¬ l.down < l.up := by omega
      simp [hr, this]
  · rw [if_neg h10] at hr
    simp [hr]
end Go.Gv

set_option linter.unusedSimpArgs false
namespace Go.Gv
def storeOk (n : Nod) : Bool := !(decide (n.ground ≤ n.invert)) && curveOk n.shape (n.ground - n.invert) 1125899906842624 && !(decide (n.kind = 1) && n.prot) && (if n.prot then lowHigh n.reserve 0 (lastK n.shape).2 else decide (n.reserve = 0))
def outOk (n : Nod) : Bool := decide (n.invert ≤ n.ground) && decide (n.shape.length = 0) && !n.prot && decide (n.reserve = 0)
def nodOk (n : Nod) : Bool := isName n.name && lowHigh n.x (-16777216) 16777216 && lowHigh n.y (-16777216) 16777216 && lvlOk n.invert && lvlOk n.ground && (if n.kind = 1 ∨ n.kind = 2 then storeOk n else if n.kind = 3 then outOk n else false)
variable {C : CC} (hC : Closed prog C)
include hC
theorem shaped_c (b : Bool) (t : List (Int × Int)) (hgt : Int) : C 174 [slx b (t.map knD), .int .i64 hgt] (.bool (curveOk t hgt 1125899906842624)) [] := by
  refine start hC (nf := N174_network_shaped) rfl rfl ?_
  simp [N174_network_shaped]
  refine callW_of (tableValid_c hC b t) (.inl rfl) ?_
  cases hv : tableValid t
  · simp [curveOk, hv]
  obtain ⟨l1, l2⟩ := valid_len hv
  obtain ⟨n, hn⟩ : ∃ n, n + 1 = t.length := ⟨t.length - 1, by omega⟩
  have e1 : IntKind.wrap .i64 ((t.length : Int) - 1) = (n : Int) := wrap_i64 (by omega) (by omega)
  have hnl : n < t.length := by omega
  have h0 : 0 < t.length := by omega
  have e0 : t[0]! = t[0] := getElem!_pos t 0 h0
  simp [e1, hnl, h0, knD]
  rw [curveOk, lastK_get hn, e0, hv]
  have ez : (decide (t[0].fst = 0) && decide (t[0].snd = 0)) = (t[0].1 == 0 && t[0].2 == 0) := by rw [Bool.eq_iff_iff]; simp
  rw [← ez]
  cases hz : (decide (t[0].fst = 0) && decide (t[0].snd = 0))
  · simp
  simp
  refine brB_of (fun c => ?_) (fun c => ?_)
  · simp at c
    simp [c]
  · simp at c
    simp [c]
theorem nodOk_c (n : Nod) : C 168 [.agg (nodC n)] (.bool (nodOk n)) [] := by
  have lh : ∀ n a b : Int, (decide (a ≤ n) && decide (n ≤ b)) = lowHigh n a b := fun _ _ _ => rfl
  have k1 := IsName_c hC n.name
  have k2 := between_c hC n.x (-16777216) 16777216
  have k3 := between_c hC n.y (-16777216) 16777216
  have k4 := level_c hC [n.invert, n.ground] (by simp)
  rw [lh] at k2 k3
  obtain ⟨q, hq⟩ : ∃ q, q = nodOk n := ⟨_, rfl⟩
  rw [← hq]
  unfold nodOk at hq
  refine start hC (nf := N168_network_rightNode) rfl rfl ?_
  simp [N168_network_rightNode, nodC]
  refine callW_of k1 (.inl rfl) ?_
  cases h1 : isName n.name
  · simp [hq, h1]
  simp
  refine callW_of k2 (.inl rfl) ?_
  cases h2 : lowHigh n.x (-16777216) 16777216
  · simp [hq, h2]
  simp
  refine callW_of k3 (.inl rfl) ?_
  cases h3 : lowHigh n.y (-16777216) 16777216
  · simp [hq, h3]
  simp
  refine callW_of k4 (.inl rfl) ?_
  cases h4 : lvlOk n.invert
  · simp [hq, h4]
  cases h5 : lvlOk n.ground
  · simp [hq, h4, h5]
  simp [h4, h5]
  rw [h1, h2, h3, h4, h5] at hq
  simp only [Bool.true_and] at hq
  have b1 : -4194304 ≤ n.invert ∧ n.invert ≤ 4194304 := by simpa [lvlOk] using h4
  have b2 : -4194304 ≤ n.ground ∧ n.ground ≤ 4194304 := by simpa [lvlOk] using h5
  have e1 : IntKind.wrap .i64 (n.ground - n.invert) = n.ground - n.invert := wrap_i64 rfl (by omega)
  refine brB_of (fun hk1 => ?_) (fun hk1 => ?_) <;> simp at hk1 <;> simp [hk1]
  · rw [if_pos (by omega), storeOk] at hq
    refine brB_of (fun c1 => ?_) (fun c1 => ?_) <;> simp at c1 <;> simp [c1]
    · simp [hq, c1]
    have c1' : ¬ n.ground ≤ n.invert := by omega
    simp [e1]
    refine callW_of (shaped_c hC n.shapeN n.shape (n.ground - n.invert)) (.inl rfl) ?_
    cases c2 : curveOk n.shape (n.ground - n.invert) 1125899906842624
    · simp [hq, c2]
    simp [hk1]
    cases c3 : n.prot
    · simp [hq, c1', c2, c3]
    · simp [hq, c3, hk1]
  refine brB_of (fun hk2 => ?_) (fun hk2 => ?_) <;> simp at hk2 <;> simp [hk2, hk1]
  · rw [if_pos (by omega), storeOk] at hq
    refine brB_of (fun c1 => ?_) (fun c1 => ?_) <;> simp at c1 <;> simp [c1]
    · simp [hq, c1]
    have c1' : ¬ n.ground ≤ n.invert := by omega
    simp [e1]
    refine callW_of (shaped_c hC n.shapeN n.shape (n.ground - n.invert)) (.inl rfl) ?_
    cases c2 : curveOk n.shape (n.ground - n.invert) 1125899906842624
    · simp [hq, c2]
    simp [hk2]
    cases c3 : n.prot
    · simp [hq, c1', c2, c3]
    have hv : tableValid n.shape = true := by
      simp only [curveOk, Bool.and_eq_true] at c2
      exact c2.1.1.1
    obtain ⟨l1, l2⟩ := valid_len hv
    obtain ⟨m, hm⟩ : ∃ m, m + 1 = n.shape.length := ⟨n.shape.length - 1, by omega⟩
    have e2 : IntKind.wrap .i64 ((n.shape.length : Int) - 1) = (m : Int) := wrap_i64 (by omega) (by omega)
    have hml : m < n.shape.length := by omega
    simp [e2, hml, knD]
    have kb := between_c hC n.reserve 0 n.shape[m].2
    rw [lh] at kb
    refine callW_of kb (.inl rfl) ?_
    simp
    refine ⟨indW_of (by decide +kernel), ?_⟩
    simp [hq, c1', c2, c3, hk2, lastK_get hm]
  rw [if_neg (by omega)] at hq
  refine brB_of (fun hk3 => ?_) (fun hk3 => ?_) <;> simp at hk3 <;> simp [hk3]
  · rw [if_pos hk3, outOk] at hq
    refine brB_of (fun c1 => ?_) (fun c1 => ?_) <;> simp at c1 <;> simp [c1]
    · refine brB_of (fun c2 => ?_) (fun c2 => ?_) <;> simp at c2 <;> simp [c2]
      · cases c3 : n.prot
        · simp [hq, c1, c2, c3]
        · simp [hq, c3]
      · simp [hq, c2]
    · have : ¬ n.invert ≤ n.ground := by omega
      simp [hq, this]
  · rw [if_neg hk3] at hq
    simp [hq]
end Go.Gv

set_option linter.unusedSimpArgs false
namespace Go.Gv
def nodAt (ns : List Nod) (i : Nat) : Bool := nodOk ns[i]! && decide (idxD (nodIs ns[i]!.name) ns = (i : Int))
def fromOk (ns : List Nod) (nm : List UInt8) : Bool := decide (0 ≤ idxD (nodIs nm) ns) && !decide (ns[(idxD (nodIs nm) ns).toNat]!.kind = 3)
def lnkAt (ns : List Nod) (ls : List Lnk) (i : Nat) : Bool := linkOk ls[i]! && decide (idxD (lnkIs ls[i]!.name) ls = (i : Int)) && fromOk ns ls[i]!.src && decide (0 ≤ idxD (nodIs ls[i]!.dst) ns)
def netOk (ns : List Nod) (ls : List Lnk) : Bool := decide (ns.length ≤ 300) && decide (ls.length ≤ 400) && (List.range ns.length).all (nodAt ns) && (List.range ls.length).all (lnkAt ns ls)
theorem idxD_lt {α : Type} {p : α → Bool} {xs : List α} (h : 0 ≤ idxD p xs) : (idxD p xs).toNat < xs.length := by
  unfold idxD at h ⊢
  cases e : xs.findIdx? p with
  | none => rw [e] at h; simp at h
  | some i =>
    simp
    obtain ⟨h1, _⟩ := List.findIdx?_eq_some_iff_getElem.1 e
    exact h1
variable {C : CC} (hC : Closed prog C)
include hC
theorem netOk_c (b1 b2 : Bool) (ns : List Nod) (ls : List Lnk) (hcv : ∀ l ∈ ls, l.curve.length < 2 ^ 62) : C 164 [.agg [slx b1 (ns.map nodC), slx b2 (ls.map lnkC)]] (.bool (netOk ns ls)) [] := by
  obtain ⟨r, hr⟩ : ∃ r, r = netOk ns ls := ⟨_, rfl⟩
  rw [← hr]
  unfold netOk at hr
  refine start hC (nf := N164_network_Valid) rfl rfl ?_
  simp [N164_network_Valid]
  refine brB_of (fun c => ?_) (fun c => ?_) <;> simp at c <;> simp [c]
  · simp [hr, show ¬ ns.length ≤ 300 by omega]
  refine brB_of (fun c2 => ?_) (fun c2 => ?_) <;> simp at c2 <;> simp [c2]
  · simp [hr, show ¬ ls.length ≤ 400 by omega]
  rw [decide_eq_true (show ns.length ≤ 300 by omega), decide_eq_true (show ls.length ≤ 400 by omega)] at hr
  simp only [Bool.true_and] at hr
  have badN : ∀ i, i < ns.length → nodAt ns i = false → r = false := fun i hi h => by
    rw [hr, Bool.and_eq_false_iff]
    exact .inl (List.all_eq_false.2 ⟨i, by simpa using hi, by simp [h]⟩)
  have badL : ∀ i, i < ls.length → lnkAt ns ls i = false → r = false := fun i hi h => by
    rw [hr, Bool.and_eq_false_iff]
    exact .inr (List.all_eq_false.2 ⟨i, by simpa using hi, by simp [h]⟩)
  refine loop_of Nat (fun i => [(1, .ptr [slx b1 (ns.map nodC), slx b2 (ls.map lnkC)]), (19, slx b1 (ns.map nodC)), (20, .int .i64 ns.length), (21, .int .i64 i)]) (fun i => i ≤ ns.length ∧ ∀ j < i, nodAt ns j = true) (fun i => ns.length - i) 0 (by simp) (by simp) ?_
  rintro i ⟨hi, hj⟩
  simp
  refine brB_of (fun h => ?_) (fun h => ?_) <;> simp at h <;> simp [h]
  · have hw : IntKind.wrap .i64 ((i : Int) + 1) = ((i + 1 : Nat) : Int) := wrap_i64 (by omega) (by omega)
    have bad := badN i h
    have e1 : ns[i]! = ns[i] := getElem!_pos ns i h
    simp only [nodAt, e1] at bad
    have k1 := nodOk_c hC ns[i]
    have k2 := node_c hC b1 b2 ns ls ns[i].name (by omega)
    simp only [nodC] at k1
    simp [nodC, h]
    refine callW_of k1 (.inl rfl) ?_
    cases g1 : nodOk ns[i]
    · simp
      exact bad (by simp [g1])
    simp
    refine callW_of k2 (.inl rfl) ?_
    simp
    refine brB_of (fun g2 => ?_) (fun g2 => ?_) <;> simp at g2 <;> simp [g2]
    · exact bad (by simp [g2])
    · simp [hw]
      refine ⟨i + 1, ⟨by omega, fun k hk => ?_⟩, by omega, by simp⟩
      rcases Nat.lt_succ_iff_lt_or_eq.1 hk with h5 | rfl
      · exact hj k h5
      · simp [nodAt, e1, g1, g2]
  have hall : (List.range ns.length).all (nodAt ns) = true := by
    rw [List.all_eq_true]
    intro k hk
    exact hj k (by simp at hk; omega)
  rw [hall, Bool.true_and] at hr
  clear badN hall hj
  refine loop_of Nat (fun i => [(1, .ptr [slx b1 (ns.map nodC), slx b2 (ls.map lnkC)]), (39, slx b2 (ls.map lnkC)), (40, .int .i64 ls.length), (41, .int .i64 i)]) (fun i => i ≤ ls.length ∧ ∀ j < i, lnkAt ns ls j = true) (fun i => ls.length - i) 0 (by simp) (by simp) ?_
  clear h hi i
  rintro i ⟨hi, hj⟩
  simp
  refine brB_of (fun h => ?_) (fun h => ?_) <;> simp at h <;> simp [h]
  · have hw : IntKind.wrap .i64 ((i : Int) + 1) = ((i + 1 : Nat) : Int) := wrap_i64 (by omega) (by omega)
    have bad := badL i h
    have e1 : ls[i]! = ls[i] := getElem!_pos ls i h
    simp only [lnkAt, e1] at bad
    have k1 := linkOk_c hC ls[i] (hcv _ (List.getElem_mem h))
    have k2 := link_c hC b1 b2 ns ls ls[i].name (by omega)
    have k3 := node_c hC b1 b2 ns ls ls[i].src (by omega)
    have k4 := node_c hC b1 b2 ns ls ls[i].dst (by omega)
    have next : lnkAt ns ls i = true → ∃ s' : Nat, (s' ≤ ls.length ∧ ∀ j < s', lnkAt ns ls j = true) ∧ ls.length - s' < ls.length - i ∧ (i : Int) + 1 = s' := fun hl => by
      refine ⟨i + 1, ⟨by omega, fun k hk => ?_⟩, by omega, by simp⟩
      rcases Nat.lt_succ_iff_lt_or_eq.1 hk with h5 | rfl
      · exact hj k h5
      · exact hl
    simp only [lnkAt, e1] at next
    simp only [lnkC] at k1
    simp [lnkC, h]
    refine callW_of k1 (.inl rfl) ?_
    cases g1 : linkOk ls[i]
    · simp
      exact bad (by simp [g1])
    simp
    refine callW_of k2 (.inl rfl) ?_
    simp
    refine brB_of (fun g2 => ?_) (fun g2 => ?_) <;> simp at g2 <;> simp [g2]
    · exact bad (by simp [g2])
    refine callW_of k3 (.inl rfl) ?_
    simp
    refine brB_of (fun g3 => ?_) (fun g3 => ?_) <;> simp at g3 <;> simp [g3]
    · exact bad (by simp [fromOk, show ¬ 0 ≤ idxD (nodIs ls[i].src) ns by omega])
    have g3' : ¬ idxD (nodIs ls[i].src) ns < 0 := by omega
    refine callW_of k4 (.inl rfl) ?_
    simp
    refine brB_of (fun g4 => ?_) (fun g4 => ?_) <;> simp at g4 <;> simp [g4]
    · exact bad (by simp [show ¬ 0 ≤ idxD (nodIs ls[i].dst) ns by omega])
    have g4' : ¬ idxD (nodIs ls[i].dst) ns < 0 := by omega
    have hf := idxD_lt g3
    obtain ⟨f, hfe⟩ := Int.eq_ofNat_of_zero_le g3
    rw [hfe] at hf ⊢
    simp at hf
    have e2 : ns[f]! = ns[f] := getElem!_pos ns f hf
    have hfo : fromOk ns ls[i].src = !decide (ns[f].kind = 3) := by
      simp [fromOk, hfe, e2]
    simp [hf, nodC]
    refine brB_of (fun g5 => ?_) (fun g5 => ?_) <;> simp at g5 <;> simp [g5]
    · exact bad (by simp [hfo, g5])
    · simp [hw]
      exact next (by simp [hfo, g5, g1, g2, g4])
  · have hall : (List.range ls.length).all (lnkAt ns ls) = true := by
      rw [List.all_eq_true]
      intro k hk
      exact hj k (by simp at hk; omega)
    rw [hr, hall]
end Go.Gv

set_option linter.unusedSimpArgs false
namespace Go.Gv
def ordE (n : Nat) (es : List Edg) : Int := if (ordF n es).length < n then 22 else 0
def ordV (n : Nat) (es : List Edg) : D := if (ordF n es).length < n then .nils else ndD (ordF n es)
def treeF (n : Nat) (es : List Edg) : Bool := decide ((es.map (·.1)).Nodup) && decide ((ordF n es).length = n)
def srcT (es : List Edg) (j : Nat) : List Nat := (es.take j).map (·.1)
theorem srcT_succ {es : List Edg} {j : Nat} (h : j < es.length) : srcT es (j + 1) = srcT es j ++ [es[j].1] := by
  unfold srcT
  rw [List.take_succ_eq_append_getElem h, List.map_append]
  rfl
@[simp] theorem srcT_0 (es : List Edg) : srcT es 0 = [] := rfl
theorem srcT_end (es : List Edg) : srcT es es.length = es.map (·.1) := by simp [srcT]
theorem srcT_nd {es : List Edg} {j : Nat} (h : ¬ (srcT es j).Nodup) : ¬ (es.map (·.1)).Nodup := by
  intro h2
  apply h
  unfold srcT
  rw [List.map_take]
  exact h2.sublist (List.take_sublist _ _)
def edT (es : List Edg) (j : Nat) : List (List D) := (es.take j).map edK
theorem edT_succ {es : List Edg} {j : Nat} (h : j < es.length) : edT es (j + 1) = edT es j ++ [edK es[j]] := by
  unfold edT
  rw [List.take_succ_eq_append_getElem h, List.map_append]
  rfl
@[simp] theorem edT_0 (es : List Edg) : edT es 0 = [] := rfl
theorem edT_len {es : List Edg} {j : Nat} (h : j ≤ es.length) : (edT es j).length = j := by simp [edT]; omega
theorem edT_end (es : List Edg) : edT es es.length = es.map edK := by simp [edT]
theorem edT_V (es : List Edg) (j : Nat) : (edT es j).map (fun e => e.map cellV) = edT es j := by
  unfold edT
  rw [List.map_map]
  apply List.map_congr_left
  intro e _
  simp [edK, knD, cellV]
def seenA (n : Nat) (es : List Edg) (j : Nat) : List (List D) := (List.range n).map fun v => [.bool (decide (v ∈ srcT es j))]
theorem seenA_get {n v : Nat} (es : List Edg) (j : Nat) (h : v < n) : (seenA n es j)[v]? = some [.bool (decide (v ∈ srcT es j))] := by simp [seenA, h]
def edgN (ns : List Nod) (ls : List Lnk) : List Edg := ls.map fun l => ((idxD (nodIs l.src) ns).toNat, (idxD (nodIs l.dst) ns).toNat)
theorem edgN_len (ns : List Nod) (ls : List Lnk) : (edgN ns ls).length = ls.length := by simp [edgN]
theorem netOk_len {ns : List Nod} {ls : List Lnk} (h : netOk ns ls = true) : ns.length ≤ 300 ∧ ls.length ≤ 400 := by
  simp only [netOk, Bool.and_eq_true, decide_eq_true_eq] at h
  exact ⟨h.1.1.1, h.1.1.2⟩
theorem netOk_lnk {ns : List Nod} {ls : List Lnk} (h : netOk ns ls = true) {i : Nat} (hi : i < ls.length) : linkOk ls[i] = true ∧ idxD (lnkIs ls[i].name) ls = (i : Int) ∧ 0 ≤ idxD (nodIs ls[i].src) ns ∧ 0 ≤ idxD (nodIs ls[i].dst) ns := by
  simp only [netOk, Bool.and_eq_true, List.all_eq_true, List.mem_range] at h
  have := h.2 i hi
  simp only [lnkAt, getElem!_pos ls i hi, fromOk, Bool.and_eq_true, decide_eq_true_eq] at this
  exact ⟨this.1.1.1, this.1.1.2, this.1.2.1, this.2⟩
theorem netOk_nod {ns : List Nod} {ls : List Lnk} (h : netOk ns ls = true) {i : Nat} (hi : i < ns.length) : nodOk ns[i] = true ∧ idxD (nodIs ns[i].name) ns = (i : Int) := by
  simp only [netOk, Bool.and_eq_true, List.all_eq_true, List.mem_range] at h
  have := h.1.2 i hi
  simpa only [nodAt, getElem!_pos ns i hi, Bool.and_eq_true, decide_eq_true_eq] using this
theorem edgN_in {ns : List Nod} {ls : List Lnk} (h : netOk ns ls = true) : inG ns.length (edgN ns ls) := by
  intro e he
  simp only [edgN, List.mem_map] at he
  obtain ⟨l, hl, rfl⟩ := he
  obtain ⟨i, hi, rfl⟩ := List.mem_iff_getElem.1 hl
  obtain ⟨_, _, h1, h2⟩ := netOk_lnk h hi
  exact ⟨idxD_lt h1, idxD_lt h2⟩
variable {C : CC} (hC : Closed prog C)
include hC
theorem gOrder_c (hS : SlC C) {b : Bool} {n : Nat} {es : List Edg} (hn : n ≤ 300) (he : es.length ≤ 1000) (hg : inG n es) : C 511 [.int .i64 n, slx b (es.map edK)] (.tup [ordV n es, .int .i64 (ordE n es)]) [] := by
  have k1 := gValid_c hC b n (es.map edI) (by simp; omega)
  rw [← edK_map, gOk_of hC hn he hg] at k1
  have k2 := order_c hC hS (b := b) hn he hg
  refine start hC (nf := N511_digraph_Order) rfl rfl ?_
  simp [N511_digraph_Order]
  refine callW_of k1 (.inl rfl) ?_
  simp
  refine callW_of k2 (.inr rfl) ?_
  unfold ordV ordE
  simp [ndD, intL_len]
  refine brB_of (fun c => ?_) (fun c => ?_) <;> simp at c <;> simp [c]
theorem gTree_c (hS : SlC C) {b : Bool} {n : Nat} {es : List Edg} (hn : n ≤ 300) (he : es.length ≤ 1000) (hg : inG n es) : C 472 [.int .i64 n, slx b (es.map edK)] (.bool (treeF n es)) [] := by
  have k1 := gValid_c hC b n (es.map edI) (by simp; omega)
  rw [← edK_map, gOk_of hC hn he hg] at k1
  have k2 := order_c hC hS (b := b) hn he hg
  obtain ⟨r, hr⟩ : ∃ r, r = treeF n es := ⟨_, rfl⟩
  rw [← hr]
  unfold treeF at hr
  refine start hC (nf := N472_digraph_Tree) rfl rfl ?_
  simp [N472_digraph_Tree]
  refine callW_of k1 (.inl rfl) ?_
  simp
  refine ⟨by omega, ?_⟩
  refine loop_of Nat (fun j => [(0, .int .i64 n), (1, slx b (es.map edK)), (5, .ref (.r 10080) 0 n), (10080, .blk 1 (seenA n es j)), (14, slx b (es.map edK)), (15, .int .i64 es.length), (16, .int .i64 j)]) (fun j => j ≤ es.length ∧ (srcT es j).Nodup) (fun j => es.length - j) 0 (by simp) (by simp [seenA, rep_map]) ?_
  rintro j ⟨hj, hnd⟩
  simp
  refine brB_of (fun h => ?_) (fun h => ?_) <;> simp [h] <;> simp at h
  · have hw : IntKind.wrap .i64 ((j : Int) + 1) = ((j + 1 : Nat) : Int) := wrap_i64 (by omega) (by omega)
    have hin := hg _ (List.getElem_mem h)
    simp [h, edK, knD, hin, rowW_some (seenA_get es j hin.1), seenA_get es j hin.1]
    refine brB_of (fun c => ?_) (fun c => ?_) <;> simp at c
    · have hbad : ¬ (srcT es (j + 1)).Nodup := by
        rw [srcT_succ h, List.nodup_append]
        rintro ⟨_, _, h3⟩
        exact h3 _ c _ (by simp) rfl
      simp [hr, srcT_nd hbad]
    · have e1 : (seenA n es j).set es[j].1 [.bool true] = seenA n es (j + 1) := by
        unfold seenA
        rw [set_rm]
        apply List.map_congr_left
        intro v _
        rw [srcT_succ h]
        by_cases e : v = es[j].1
        · subst e; simp
        · simp [e]
      have hnd2 : (srcT es (j + 1)).Nodup := by
        rw [srcT_succ h, List.nodup_append]
        refine ⟨hnd, by simp, fun a ha b hb => ?_⟩
        simp at hb
        subst hb
        rintro rfl
        exact c ha
      simp [hin, seenA_get es j hin.1, e1, hw]
      exact ⟨j + 1, ⟨by omega, hnd2⟩, by omega, rfl, by omega⟩
  · have ej : j = es.length := by omega
    rw [ej, srcT_end] at hnd
    refine callW_of k2 (.inr rfl) ?_
    simp [ndD, intL_len, hr, hnd]
    omega
theorem nEdges_c (b1 b2 : Bool) (ns : List Nod) (ls : List Lnk) (hv : netOk ns ls = true) : C 499 [.agg [slx b1 (ns.map nodC), slx b2 (ls.map lnkC)]] (.sl ((edgN ns ls).map edK)) [] := by
  obtain ⟨hl1, hl2⟩ := netOk_len hv
  refine start hC (nf := N499_network_edges) rfl rfl ?_
  simp [N499_network_edges]
  refine loop_of Nat (fun j => [(1, .ptr [slx b1 (ns.map nodC), slx b2 (ls.map lnkC)]), (3, .ref (.r 10048) 0 j), (10048, .blk 2 (edT (edgN ns ls) j)), (7, slx b2 (ls.map lnkC)), (8, .int .i64 ls.length), (9, .int .i64 j)]) (fun j => j ≤ ls.length) (fun j => ls.length - j) 0 (by simp) (by simp) ?_
  rintro j hj
  simp
  refine brB_of (fun h => ?_) (fun h => ?_) <;> simp [h] <;> simp at h
  · have hw : IntKind.wrap .i64 ((j : Int) + 1) = ((j + 1 : Nat) : Int) := wrap_i64 (by omega) (by omega)
    obtain ⟨_, _, g1, g2⟩ := netOk_lnk hv h
    have k1 := node_c hC b1 b2 ns ls ls[j].src (by omega)
    have k2 := node_c hC b1 b2 ns ls ls[j].dst (by omega)
    have hjl : j < (edgN ns ls).length := by rw [edgN_len]; exact h
    have el := edT_len (es := edgN ns ls) (j := j) (by omega)
    simp [h, lnkC, el]
    refine callW_of k1 (.inl rfl) ?_
    simp
    refine callW_of k2 (.inl rfl) ?_
    simp [el]
    refine ⟨by omega, indW_of (by decide +kernel), j + 1, by omega, by omega, rfl, ?_, hw⟩
    have e2 : (edT (edgN ns ls) j).take j = edT (edgN ns ls) j := List.take_of_length_le (by omega)
    rw [e2, edT_succ hjl]
    congr 2
    simp only [edgN, List.getElem_map, edK, knD]
    rw [Int.toNat_of_nonneg g1, Int.toNat_of_nonneg g2]
  · have ej : j = ls.length := by omega
    subst ej
    have e0 := edT_end (edgN ns ls)
    have el := edT_len (es := edgN ns ls) (j := ls.length) (by rw [edgN_len]; exact Nat.le_refl _)
    rw [edgN_len] at e0
    simp [edT_V, el]
    rw [← e0, List.take_of_length_le (by omega)]
theorem NEdges_c (b1 b2 : Bool) (ns : List Nod) (ls : List Lnk) (hcv : ∀ l ∈ ls, l.curve.length < 2 ^ 62) : C 471 [.agg [slx b1 (ns.map nodC), slx b2 (ls.map lnkC)]] (.tup (if netOk ns ls then [.sl ((edgN ns ls).map edK), .int .i64 0] else [.nils, .int .i64 1])) [] := by
  refine start hC (nf := N471_network_Edges) rfl rfl ?_
  simp [N471_network_Edges]
  refine callW_of (netOk_c hC b1 b2 ns ls hcv) (.inl rfl) ?_
  cases hv : netOk ns ls
  · simp
  · simp
    refine callW_of (nEdges_c hC b1 b2 ns ls hv) (.inr rfl) ?_
    simp
theorem NOrder_c (hS : SlC C) (b1 b2 : Bool) (ns : List Nod) (ls : List Lnk) (hcv : ∀ l ∈ ls, l.curve.length < 2 ^ 62) : C 495 [.agg [slx b1 (ns.map nodC), slx b2 (ls.map lnkC)]] (.tup (if netOk ns ls then [ordV ns.length (edgN ns ls), .int .i64 (ordE ns.length (edgN ns ls))] else [.nils, .int .i64 1])) [] := by
  refine start hC (nf := N495_network_Order) rfl rfl ?_
  simp [N495_network_Order]
  refine callW_of (netOk_c hC b1 b2 ns ls hcv) (.inl rfl) ?_
  cases hv : netOk ns ls
  · simp
  · obtain ⟨l1, l2⟩ := netOk_len hv
    have k := gOrder_c hC hS (b := false) (n := ns.length) (es := edgN ns ls) l1 (by rw [edgN_len]; omega) (edgN_in hv)
    simp
    refine callW_of (nEdges_c hC b1 b2 ns ls hv) (.inr rfl) ?_
    simp at k ⊢
    refine callW_of k (.inr rfl) ?_
    unfold ordV ordE ndD
    split <;> simp
    · exact ⟨indW_of (by decide +kernel), by omega⟩
    · exact ⟨indW_of (by decide +kernel), by omega⟩
theorem notPipe_c (l : Lnk) : C 470 [.agg (lnkC l)] (.bool (!decide (l.kind = 1))) [] := by
  refine start hC (nf := N470_steady_Tree_1) rfl rfl ?_
  simp [N470_steady_Tree_1, lnkC]
theorem hasLnk_c {b : Bool} {xs : List Lnk} {g : Nat} {cs : List D} (p : Lnk → Bool) (hs : xs.length < 2 ^ 62) (hp : ∀ x ∈ xs, C g (.agg (lnkC x) :: cs) (.bool (p x)) []) : C 455 [slx b (xs.map fun x => lnkC x), .fn g cs] (.bool (xs.any p)) [] := by
  refine start hC (nf := N455_slices_ContainsFunc__api_Link_api_Link) rfl rfl ?_
  simp [N455_slices_ContainsFunc__api_Link_api_Link]
  refine callW_of (idxLnk_c hC p hs hp) (.inl rfl) ?_
  simp [idxD_any]
theorem hasNod_c {b : Bool} {xs : List Nod} {g : Nat} {cs : List D} (p : Nod → Bool) (hs : xs.length < 2 ^ 62) (hp : ∀ x ∈ xs, C g (.agg (nodC x) :: cs) (.bool (p x)) []) : C 453 [slx b (xs.map fun x => nodC x), .fn g cs] (.bool (xs.any p)) [] := by
  refine start hC (nf := N453_slices_ContainsFunc__api_Node_api_Node) rfl rfl ?_
  simp [N453_slices_ContainsFunc__api_Node_api_Node]
  refine callW_of (idxNod_c hC p hs hp) (.inl rfl) ?_
  simp [idxD_any]
def treeN (ns : List Nod) (ls : List Lnk) : Bool := netOk ns ls && ls.all (fun l => decide (l.kind = 1)) && treeF ns.length (edgN ns ls)
theorem sTree_c (hS : SlC C) (b1 b2 : Bool) (ns : List Nod) (ls : List Lnk) (hl : ls.length < 2 ^ 62) (hcv : ∀ l ∈ ls, l.curve.length < 2 ^ 62) : C 433 [.agg [slx b1 (ns.map nodC), slx b2 (ls.map lnkC)]] (.bool (treeN ns ls)) [] := by
  have k1 := hasLnk_c hC (b := b2) (xs := ls) (g := 470) (cs := []) (fun l => !decide (l.kind = 1)) hl (fun x _ => notPipe_c hC x)
  have k2 := NEdges_c hC b1 b2 ns ls hcv
  have e1 : (ls.any fun l => !decide (l.kind = 1)) = !(ls.all fun l => decide (l.kind = 1)) := by simp [List.any_eq_not_all_not]
  rw [e1] at k1
  refine start hC (nf := N433_steady_Tree) rfl rfl ?_
  simp [N433_steady_Tree]
  refine callW_of k1 (.inl rfl) ?_
  unfold treeN
  cases h1 : ls.all (fun l => decide (l.kind = 1))
  · simp
  simp
  cases hv : netOk ns ls
  · rw [hv] at k2
    refine callW_of k2 (.inr rfl) ?_
    simp
  · rw [hv] at k2
    obtain ⟨l1, l2⟩ := netOk_len hv
    have k := gTree_c hC hS (b := false) (n := ns.length) (es := edgN ns ls) l1 (by rw [edgN_len]; omega) (edgN_in hv)
    refine callW_of k2 (.inr rfl) ?_
    simp at k ⊢
    refine callW_of k (.inl rfl) ?_
    simp
end Go.Gv

set_option linter.unusedSimpArgs false
namespace Go.Gv
abbrev Sp := Int × Int
def fitS (n : Int) : Bool := decide (-72057594037927936 ≤ n) && decide (n ≤ 72057594037927936)
def spOk (s : Sp) : Bool := decide (s.1 ≤ s.2) && fitS s.1 && fitS s.2
def spRg (s : Sp) : Bool := decide (s.1 < 0) || decide (1099511627776 < s.2)
def spsE (l : List Sp) (count : Int) : Int := if l.any (fun s => !spOk s) then 1 else if (l.length : Int) = count then (if l.any spRg then 2 else 0) else 3
def spA (a b : Sp) : Sp := (IntKind.wrap .i64 (a.1 + b.1), IntKind.wrap .i64 (a.2 + b.2))
abbrev FSt := (Nat → Sp) × (Nat → Sp)
def fStep (i k : Nat) (e : Edg) (s : FSt) : FSt := if e.1 = i then (fun v => if v = e.2 then spA (s.1 e.2) (s.1 i) else s.1 v, fun q => if q = k then s.1 i else s.2 q) else s
def flI (es : List Edg) (i : Nat) (s : FSt) : Nat → FSt
  | 0 => s
  | k + 1 => fStep i k es[k]! (flI es i s k)
def flO (es : List Edg) (ord : List Nat) (s : FSt) : Nat → FSt
  | 0 => s
  | m + 1 => flI es ord[m]! (flO es ord s m) es.length
def flS (l : List Sp) : FSt := (fun v => l[v]!, fun _ => (0, 0))
def flowsF (n : Nat) (es : List Edg) (l : List Sp) : List Sp := (List.range es.length).map (flO es (ordF n es) (flS l) (ordF n es).length).2
def bigF (l : List Sp) : Bool := l.any fun s => decide (1099511627776 < s.2)
def flowsE (n : Nat) (es : List Edg) (l : List Sp) : Int := if bigF (flowsF n es l) then 5 else 0
def flowsV (n : Nat) (es : List Edg) (l : List Sp) : D := if bigF (flowsF n es l) then .nils else .sl ((flowsF n es l).map knD)
def spR (n : Nat) (f : Nat → Sp) : List (List D) := (List.range n).map fun v => knD (f v)
theorem spR_eq (n : Nat) (f : Nat → Sp) : spR n f = ((List.range n).map f).map knD := by simp [spR]
theorem spR_V (n : Nat) (f : Nat → Sp) : (spR n f).map (fun e => e.map cellV) = spR n f := by
  unfold spR
  rw [List.map_map]
  apply List.map_congr_left
  intro v _
  simp [knD, cellV]
theorem spR_len (n : Nat) (f : Nat → Sp) : (spR n f).length = n := by simp [spR]
theorem spR_get {n v : Nat} (f : Nat → Sp) (h : v < n) : (spR n f)[v]? = some [.int .i64 (f v).1, .int .i64 (f v).2] := by simp [spR, h, knD]
theorem spR_set {n v : Nat} (f : Nat → Sp) (x : Sp) : (spR n f).set v [.int .i64 x.1, .int .i64 x.2] = spR n fun u => if u = v then x else f u := by
  unfold spR
  rw [set_rm]
  apply List.map_congr_left
  intro u _
  by_cases h : u = v <;> simp [h, knD]
variable {C : CC} (hC : Closed prog C)
include hC
theorem fitS_c (n : Int) : C 510 [.int .i64 n] (.bool (fitS n)) [] := by
  refine start hC (nf := N510_span_fits) rfl rfl ?_
  simp [N510_span_fits, fitS]
  refine brB_of (fun h => ?_) (fun h => ?_) <;> simp at h <;> simp [h]
  intro _; omega
theorem spOk_c (s : Sp) : C 493 [.agg (knD s)] (.bool (spOk s)) [] := by
  refine start hC (nf := N493_span_Valid) rfl rfl ?_
  simp [N493_span_Valid, knD]
  refine brB_of (fun h => ?_) (fun h => ?_) <;> simp at h <;> simp [h]
  · refine callW_of (fitS_c hC s.1) (.inl rfl) ?_
    cases h1 : fitS s.1
    · simp [spOk, h1]
    · simp
      refine callW_of (fitS_c hC s.2) (.inl rfl) ?_
      simp [spOk, h1, h]
  · simp [spOk, show ¬ s.1 ≤ s.2 by omega]
theorem spBad_c (s : Sp) : C 492 [.agg (knD s)] (.bool (!spOk s)) [] := by
  have k := spOk_c hC s
  simp only [knD] at k
  refine start hC (nf := N492_steady_spans_1) rfl rfl ?_
  simp [N492_steady_spans_1, knD]
  refine callW_of k (.inl rfl) ?_
  simp
theorem spRg_c (s : Sp) : C 494 [.agg (knD s)] (.bool (spRg s)) [] := by
  refine start hC (nf := N494_steady_spans_2) rfl rfl ?_
  simp [N494_steady_spans_2, knD, spRg]
  by_cases h : s.1 < 0 <;> simp [h]
theorem spBig_c (s : Sp) : C 497 [.agg (knD s)] (.bool (decide (1099511627776 < s.2))) [] := by
  refine start hC (nf := N497_steady_flows_1) rfl rfl ?_
  simp [N497_steady_flows_1, knD]
theorem idxSp_c {b : Bool} {xs : List (Int × Int)} {g : Nat} {cs : List D} (p : (Int × Int) → Bool) (hs : xs.length < 2 ^ 62) (hp : ∀ x ∈ xs, C g (.agg (knD x) :: cs) (.bool (p x)) []) : C 509 [slx b (xs.map fun x => knD x), .fn g cs] (.int .i64 (idxD p xs)) [] := by
  refine start hC (nf := N509_slices_IndexFunc__api_Span_api_Span) rfl rfl ?_
  simp [N509_slices_IndexFunc__api_Span_api_Span]
  refine loop_of Nat (fun i => [(0, slx b (xs.map fun x => knD x)), (1, .fn g cs), (7, .int .i64 xs.length), (8, .int .i64 i)]) (fun i => i ≤ xs.length ∧ ∀ (j : Nat) (h : j < xs.length), j < i → p xs[j] = false) (fun i => xs.length - i) 0 (by simp) (by simp) ?_
  rintro i ⟨hi, hj⟩
  simp
  refine brB_of (fun h => ?_) (fun h => ?_) <;> simp [h] <;> simp at h
  · have hw : IntKind.wrap .i64 ((i : Int) + 1) = ((i + 1 : Nat) : Int) := wrap_i64 (by omega) (by omega)
    have hc := hp _ (List.getElem_mem h)
    simp [h, knD] at hc ⊢
    refine callW_of hc (.inl rfl) ?_
    simp
    refine brB_of (fun h1 => ?_) (fun h1 => ?_) <;> simp [h1, hw]
    · rw [idxD_step hj h h1]
    · refine ⟨i + 1, ⟨by omega, fun j hl hjj => ?_⟩, by omega, rfl⟩
      rcases Nat.lt_succ_iff_lt_or_eq.1 hjj with h2 | rfl
      · exact hj j hl h2
      · exact h1
  · rw [idxD_none (fun j hl => hj j hl (by omega))]
theorem hasSp_c {b : Bool} {xs : List (Int × Int)} {g : Nat} {cs : List D} (p : (Int × Int) → Bool) (hs : xs.length < 2 ^ 62) (hp : ∀ x ∈ xs, C g (.agg (knD x) :: cs) (.bool (p x)) []) : C 491 [slx b (xs.map fun x => knD x), .fn g cs] (.bool (xs.any p)) [] := by
  refine start hC (nf := N491_slices_ContainsFunc__api_Span_api_Span) rfl rfl ?_
  simp [N491_slices_ContainsFunc__api_Span_api_Span]
  refine callW_of (idxSp_c hC p hs hp) (.inl rfl) ?_
  simp [idxD_any]
theorem spans_c (b : Bool) (l : List Sp) (count : Int) (hl : l.length < 2 ^ 62) : C 460 [slx b (l.map knD), .int .i64 count] (.int .i64 (spsE l count)) [] := by
  have k1 := hasSp_c hC (b := b) (xs := l) (g := 492) (cs := []) (fun s => !spOk s) hl (fun x _ => spBad_c hC x)
  have k2 := hasSp_c hC (b := b) (xs := l) (g := 494) (cs := []) spRg hl (fun x _ => spRg_c hC x)
  refine start hC (nf := N460_steady_spans) rfl rfl ?_
  simp [N460_steady_spans]
  refine callW_of k1 (.inl rfl) ?_
  unfold spsE
  cases h1 : l.any (fun s => !spOk s)
  · simp
    by_cases h2 : (l.length : Int) = count
    · simp [h2]
      refine callW_of k2 (.inl rfl) ?_
      cases h3 : l.any spRg <;> simp [h2]
    · simp [h2]
  · simp
theorem cloneSp_c (b : Bool) (l : List Sp) (hl : l.length < 2 ^ 40) : C 496 [slx b (l.map knD)] .any [.own 2 (l.map knD)] := by
  have hf : ∀ e ∈ l.map knD, e.length = 2 ∧ (∀ c ∈ e, isC1 c = true) ∧ ∀ c ∈ e, isF1 c = true := by
    intro e he
    obtain ⟨s, _, rfl⟩ := List.mem_map.1 he
    simp [knD, isC1, isF1]
  cases l with
  | nil =>
    cases b with
    | true =>
      show C 496 [.nils] .any [.own 2 []]
      refine startF hC (nf := N496_slices_Clone__api_Span_api_Span) rfl rfl ?_
      simp [N496_slices_Clone__api_Span_api_Span]
    | false =>
      show C 496 [.sl []] .any [.own 2 []]
      refine startF hC (nf := N496_slices_Clone__api_Span_api_Span) rfl rfl ?_
      simp [N496_slices_Clone__api_Span_api_Span]
  | cons x xs =>
    have e : slx b ((x :: xs).map knD) = .sl ((x :: xs).map knD) := by cases b <;> rfl
    rw [e]
    obtain ⟨l, hl2⟩ : ∃ l, l = (x :: xs).map knD := ⟨_, rfl⟩
    have h : 0 < l.length := by rw [hl2]; simp
    have h2 : l.length < 1099511627776 := by rw [hl2]; simpa using hl
    rw [← hl2] at hf ⊢
    clear hl2 e hl
    refine startF hC (nf := N496_slices_Clone__api_Span_api_Span) rfl rfl ?_
    simp [N496_slices_Clone__api_Span_api_Span]
    refine ⟨fun _ => ⟨fun e he => ⟨(hf e he).1, (hf e he).2.1⟩, by omega, fun e he => (hf e he).2.2⟩, fun h0 => ?_⟩
    subst h0
    simp at h
set_option maxRecDepth 20000 in
set_option maxHeartbeats 2000000 in
theorem sFlows_c (hS : SlC C) (b1 b2 b : Bool) (ns : List Nod) (ls : List Lnk) (l : List Sp) (hcv : ∀ l ∈ ls, l.curve.length < 2 ^ 62) (ht : treeN ns ls = true) (hl : l.length = ns.length) : C 461 [.agg [slx b1 (ns.map nodC), slx b2 (ls.map lnkC)], slx b (l.map knD)] (.tup [flowsV ns.length (edgN ns ls) l, .int .i64 (flowsE ns.length (edgN ns ls) l)]) [] := by
  simp only [treeN, treeF, Bool.and_eq_true, decide_eq_true_eq] at ht
  obtain ⟨⟨hv, _⟩, _, hlen⟩ := ht
  obtain ⟨l1, l2⟩ := netOk_len hv
  have k1 := NOrder_c hC hS b1 b2 ns ls hcv
  have k2 := NEdges_c hC b1 b2 ns ls hcv
  have k3 := cloneSp_c hC b l (by omega)
  have hg := edgN_in hv
  have hel := edgN_len ns ls
  rw [hv] at k1 k2
  rw [ordV, ordE, hlen, if_neg (Nat.lt_irrefl _), if_neg (Nat.lt_irrefl _)] at k1
  simp only [if_true] at k1 k2
  refine start hC (nf := N461_steady_flows) rfl rfl ?_
  simp [N461_steady_flows]
  refine callW_of k1 (.inr rfl) ?_
  simp [ndD]
  refine callW_of k2 (.inr rfl) ?_
  have hfv : flowsF ns.length (edgN ns ls) l = (List.range (edgN ns ls).length).map (flO (edgN ns ls) (ordF ns.length (edgN ns ls)) (flS l) ns.length).2 := by unfold flowsF; rw [hlen]
  have hI := ordN_I ns.length (edgN ns ls) ns.length
  have hIl : ∀ v ∈ ordF ns.length (edgN ns ls), v < ns.length := hI.lt
  clear hI
  unfold flowsV flowsE
  rw [hfv]
  clear hfv
  generalize ordF ns.length (edgN ns ls) = ord at *
  generalize edgN ns ls = es at *
  generalize ns.length = n at *
  simp [← hel]
  refine ⟨by omega, ?_⟩
  refine callFW_of k3 ?_
  simp [hl]
  refine loop_of Nat (fun m => [(8, .sl (es.map edK)), (9, .ref (.r 10144) 0 es.length), (10144, .blk 2 (spR es.length (flO es ord (flS l) m).2)), (10, .ref (.r 10160) 0 n), (10160, .blk 2 (spR n (flO es ord (flS l) m).1)), (38, .sl (intL ord)), (39, .int .i64 n), (40, .int .i64 m)]) (fun m => m ≤ n) (fun m => n - m) 0 (by simp) (by
    simp [flO, flS, hl, intL_len, hlen]
    refine ⟨by simp [spR, rep_map, knD], ?_⟩
    apply List.ext_getElem
    · simp [spR, hl]
    · intro i h1 h2
      have : i < l.length := by simpa using h1
      simp [spR, this]) ?_
  rintro m hm
  simp
  refine brB_of (fun h => ?_) (fun h => ?_) <;> simp [h] <;> simp at h
  · have hw : IntKind.wrap .i64 ((m : Int) + 1) = ((m + 1 : Nat) : Int) := wrap_i64 (by omega) (by omega)
    have hmo : m < ord.length := by omega
    have hin := hIl _ (List.getElem_mem hmo)
    simp [idxW_some (intL_get hmo)]
    refine loop_of Nat (fun k => [(8, .sl (es.map edK)), (9, .ref (.r 10144) 0 es.length), (10144, .blk 2 (spR es.length (flI es ord[m] (flO es ord (flS l) m) k).2)), (10, .ref (.r 10160) 0 n), (10160, .blk 2 (spR n (flI es ord[m] (flO es ord (flS l) m) k).1)), (12, .int .i64 ord[m]), (38, .sl (intL ord)), (39, .int .i64 n), (40, .int .i64 m), (44, .sl (es.map edK)), (45, .int .i64 es.length), (46, .int .i64 k)]) (fun k => k ≤ es.length) (fun k => es.length - k) 0 (by simp) (by simp [flI]) ?_
    rintro k hk
    simp
    refine brB_of (fun g => ?_) (fun g => ?_) <;> simp [g] <;> simp at g
    · have hw2 : IntKind.wrap .i64 ((k : Int) + 1) = ((k + 1 : Nat) : Int) := wrap_i64 (by omega) (by omega)
      have he := hg _ (List.getElem_mem g)
      have eg : es[k]! = es[k] := getElem!_pos es k g
      have efl : flI es ord[m] (flO es ord (flS l) m) (k + 1) = fStep ord[m] k es[k] (flI es ord[m] (flO es ord (flS l) m) k) := by rw [flI, eg]
      generalize flI es ord[m] (flO es ord (flS l) m) k = s at *
      simp [g, edK, knD]
      refine brB_of (fun c => ?_) (fun c => ?_) <;> simp at c <;> simp [c]
      · have c' : es[k].1 ≠ ord[m] := by omega
        have e2 : flI es ord[m] (flO es ord (flS l) m) (k + 1) = s := by rw [efl, fStep, if_neg c']
        refine ⟨k + 1, by omega, by omega, ?_⟩
        simp [e2, hw2]
      · have eg2 : es[k] = es[k]?.getD default := by simp [g]
        have c' : es[k].1 = ord[m] := by omega
        have e2 : flI es ord[m] (flO es ord (flS l) m) (k + 1) = (fun v => if v = es[k].2 then spA (s.1 es[k].2) (s.1 ord[m]) else s.1 v, fun q => if q = k then s.1 ord[m] else s.2 q) := by rw [efl, fStep, if_pos c']
        simp [g, edK, knD, hin, he, rowW_some (spR_get _ hin), spR_get _ g, rowW_some (spR_get _ he.2), spR_get _ he.2]
        have hset : ∀ x, ((spR n s.1).set es[k].2 x)[es[k].2]? = some x := fun x => by simp [spR_len, he.2]
        simp [hset]
        refine ⟨indW_of (by decide +kernel), ?_⟩
        simp [hw2]
        refine ⟨k + 1, by omega, by omega, ?_, ?_, by omega⟩
        · rw [e2, spR_set]
        · rw [e2]
          have := spR_set (n := n) (v := es[k].2) s.1 (spA (s.1 es[k].2) (s.1 ord[m]))
          exact this
    · have ek : k = es.length := by omega
      subst ek
      have eo : ord[m]! = ord[m] := getElem!_pos ord m hmo
      have e2 : flO es ord (flS l) (m + 1) = flI es ord[m] (flO es ord (flS l) m) es.length := by rw [flO, eo]
      exact ⟨m + 1, by omega, by omega, by rw [e2], by rw [e2], hw⟩
  · have em : m = n := by omega
    subst em
    have k4 := hasSp_c hC (b := false) (xs := (List.range es.length).map (flO es ord (flS l) m).2) (g := 497) (cs := []) (fun s => decide (1099511627776 < s.2)) (by simp; omega) (fun x _ => spBig_c hC x)
    rw [slx_false, ← spR_eq] at k4
    simp only [spR_V, spR_len, List.take_of_length_le (Nat.le_of_eq (spR_len es.length (flO es ord (flS l) m).2))]
    refine ⟨Nat.le_refl _, ?_⟩
    refine callW_of k4 (.inl rfl) ?_
    show dW _ _ _ _ _ _ _ _ _ (.bool (bigF ((List.range es.length).map (flO es ord (flS l) m).2)))
    cases hb : bigF ((List.range es.length).map (flO es ord (flS l) m).2)
    · simp [spR_V, spR_len]
      rw [List.take_of_length_le (by rw [spR_len]; exact Nat.le_refl _)]
      simp [spR]
    · simp
def FlowsE (ns : List Nod) (ls : List Lnk) (l : List Sp) : Int := if treeN ns ls then (if spsE l ns.length = 0 then flowsE ns.length (edgN ns ls) l else spsE l ns.length) else 1
def FlowsV (ns : List Nod) (ls : List Lnk) (l : List Sp) : D := if FlowsE ns ls l = 0 then .sl ((flowsF ns.length (edgN ns ls) l).map knD) else .nils
theorem spsE_len {l : List Sp} {n : Nat} (h : spsE l n = 0) : l.length = n := by
  unfold spsE at h
  split at h
  · cases h
  · split at h
    · omega
    · cases h
theorem Flows_c (hS : SlC C) (b1 b2 b : Bool) (ns : List Nod) (ls : List Lnk) (l : List Sp) (hls : ls.length < 2 ^ 62) (hl : l.length < 2 ^ 62) (hcv : ∀ l ∈ ls, l.curve.length < 2 ^ 62) : C 428 [.agg [slx b1 (ns.map nodC), slx b2 (ls.map lnkC)], slx b (l.map knD)] (.tup [FlowsV ns ls l, .int .i64 (FlowsE ns ls l)]) [] := by
  have k1 := sTree_c hC hS b1 b2 ns ls hls hcv
  have k2 := spans_c hC b l ns.length hl
  refine start hC (nf := N428_steady_Flows) rfl rfl ?_
  simp [N428_steady_Flows]
  refine callW_of k1 (.inl rfl) ?_
  unfold FlowsV FlowsE
  cases ht : treeN ns ls
  · simp
  simp
  refine callW_of k2 (.inl rfl) ?_
  by_cases h0 : spsE l ns.length = 0
  · have k3 := sFlows_c hC hS b1 b2 b ns ls l hcv ht (spsE_len hC h0)
    simp [h0]
    unfold flowsV flowsE at k3
    unfold flowsE
    refine callW_of k3 (.inr rfl) ?_
    cases hb : bigF (flowsF ns.length (edgN ns ls) l) <;> simp [h0]
  · simp [h0]
end Go.Gv

set_option linter.unusedSimpArgs false
namespace Go.Gv
def wS (s : Sp) : Sp := (IntKind.wrap .i64 s.1, IntKind.wrap .i64 s.2)
def adS (a b : Sp) : Sp := (a.1 + b.1, a.2 + b.2)
theorem wrap_add (a b : Int) : IntKind.wrap .i64 (IntKind.wrap .i64 a + b) = IntKind.wrap .i64 (a + b) := by
  simp only [IntKind.wrap_i64]
  omega
theorem spA_w (a b : Sp) : spA (wS a) b = wS (adS a b) := by
  simp only [spA, wS, adS, wrap_add]
def sumT (P : Nat → Bool) (o : Nat → Sp) : Nat → Sp
  | 0 => (0, 0)
  | k + 1 => if P k then adS (sumT P o k) (o k) else sumT P o k
theorem sumT_congr {P P' : Nat → Bool} {o o' : Nat → Sp} : ∀ {K : Nat}, (∀ k, k < K → P k = P' k ∧ (P k = true → o k = o' k)) → sumT P o K = sumT P' o' K
  | 0, _ => rfl
  | K + 1, h => by
    obtain ⟨h1, h2⟩ := h K (by omega)
    have ih := sumT_congr (K := K) (fun k hk => h k (by omega))
    unfold sumT
    rw [ih, ← h1]
    cases hP : P K
    · rfl
    · simp only [if_true]; rw [h2 hP]
theorem adS_zero (a : Sp) : adS a (0, 0) = a := by simp [adS]
theorem adS_right (a b c : Sp) : adS (adS a b) c = adS (adS a c) b := by simp only [adS]; congr 1 <;> omega
theorem adS_assoc (a b c : Sp) : adS (adS a b) c = adS a (adS b c) := by simp only [adS]; congr 1 <;> omega
theorem sumT_upd {P P' : Nat → Bool} {o o' : Nat → Sp} {k0 : Nat} (h : ∀ k, k ≠ k0 → P' k = P k ∧ o' k = o k) (h0 : P k0 = false) : ∀ K, sumT P' o' K = adS (sumT P o K) (if k0 < K ∧ P' k0 = true then o' k0 else (0, 0))
  | 0 => by simp [sumT, adS]
  | K + 1 => by
    have ih := sumT_upd h h0 K
    unfold sumT
    by_cases e : K = k0
    · subst e
      have e1 : ¬ (K < K ∧ P' K = true) := fun h => Nat.lt_irrefl _ h.1
      rw [if_neg e1, adS_zero] at ih
      rw [h0, ih]
      cases hP : P' K
      · simp [adS]
      · simp
    · obtain ⟨h1, h2⟩ := h K e
      rw [h1, h2, ih]
      have e2 : (k0 < K + 1 ∧ P' k0 = true) ↔ (k0 < K ∧ P' k0 = true) := ⟨fun x => ⟨by omega, x.2⟩, fun x => ⟨by omega, x.2⟩⟩
      by_cases c : k0 < K ∧ P' k0 = true
      · rw [if_pos c, if_pos (e2.2 c)]
        cases P K
        · rfl
        · simp only [if_true]; exact adS_right _ _ _
      · rw [if_neg c, if_neg (fun x => c (e2.1 x)), adS_zero, adS_zero]
theorem flI_none {es : List Edg} {i : Nat} {s : FSt} : ∀ {K : Nat}, K ≤ es.length → (∀ k, (h : k < es.length) → k < K → es[k].1 ≠ i) → flI es i s K = s
  | 0, _, _ => rfl
  | K + 1, hK, h => by
    have hk : K < es.length := by omega
    unfold flI
    rw [flI_none (by omega) (fun k h1 h2 => h k h1 (by omega)), getElem!_pos es K hk, fStep, if_neg (h K hk (by omega))]
theorem flI_one {es : List Edg} {i : Nat} {s : FSt} {k0 : Nat} (hk0 : k0 < es.length) (hi : es[k0].1 = i) (hu : ∀ k, (h : k < es.length) → es[k].1 = i → k = k0) : ∀ {K : Nat}, K ≤ es.length → k0 < K → flI es i s K = fStep i k0 es[k0] s
  | 0, _, h => by omega
  | K + 1, hK, h => by
    have hk : K < es.length := by omega
    unfold flI
    rw [getElem!_pos es K hk]
    by_cases e : K = k0
    · subst e
      rw [flI_none (by omega) (fun k h1 h2 e => by have := hu k h1 e; omega)]
    · rw [flI_one hk0 hi hu (by omega) (by omega), fStep, if_neg (fun e2 => e (hu K hk e2))]
theorem ordN_pre (n : Nat) (es : List Edg) (m : Nat) : ∀ k, ordN n es m <+: ordN n es (m + k)
  | 0 => List.prefix_refl _
  | k + 1 => by
    refine (ordN_pre n es m k).trans ?_
    show _ <+: stepO n es (ordN n es (m + k))
    unfold stepO
    split
    · exact List.prefix_refl _
    · exact List.prefix_append _ _
theorem ordN_len1 (n : Nat) (es : List Edg) : ∀ m k, (ordN n es (m + k)).length ≤ (ordN n es m).length + k
  | m, 0 => by simp
  | m, k + 1 => by
    have ih := ordN_len1 n es m k
    show (stepO n es (ordN n es (m + k))).length ≤ _
    unfold stepO
    split
    · omega
    · simp; omega
theorem ordN_full {n : Nat} {es : List Edg} (h : (ordF n es).length = n) {m : Nat} (hm : m ≤ n) : (ordF n es).take m = ordN n es m ∧ (ordN n es m).length = m := by
  have h1 := ordN_len1 n es 0 m
  have h2 := ordN_len1 n es m (n - m)
  have h3 := ordN_pre n es m (n - m)
  rw [show m + (n - m) = n by omega] at h2 h3
  simp only [Nat.zero_add] at h1
  have h4 : (ordN n es 0).length = 0 := rfl
  have hl : (ordN n es m).length = m := by
    have h5 : (ordN n es n).length = n := h
    omega
  refine ⟨?_, hl⟩
  obtain ⟨t, ht⟩ := h3
  show (ordN n es n).take m = _
  rw [← ht, List.take_append_of_le_length (by omega), List.take_of_length_le (by omega)]
theorem src_uniq {es : List Edg} (h : (es.map (·.1)).Nodup) {k k' : Nat} (hk : k < es.length) (hk' : k' < es.length) (e : es[k].1 = es[k'].1) : k = k' := by
  have h1 : k < (es.map (·.1)).length := by simpa using hk
  have h2 : k' < (es.map (·.1)).length := by simpa using hk'
  have := (List.getElem_inj (xs := es.map (·.1)) (i := k) (j := k') (h₀ := h1) (h₁ := h2) h).1 (by simpa using e)
  exact this
def inT (es : List Edg) (v : Nat) (done : List Nat) (k : Nat) : Bool := decide (es[k]!.2 = v) && done.contains es[k]!.1
theorem flO_inv {n : Nat} {es : List Edg} (hg : inG n es) (ht : treeF n es = true) {l : List Sp} (hl : ∀ v, v < n → wS l[v]! = l[v]!) : ∀ m, m ≤ n →
    (∀ k, (h : k < es.length) → es[k].1 ∈ (ordF n es).take m → (flO es (ordF n es) (flS l) m).2 k = (flO es (ordF n es) (flS l) m).1 es[k].1) ∧
    (∀ v, v < n → (flO es (ordF n es) (flS l) m).1 v = wS (adS l[v]! (sumT (inT es v ((ordF n es).take m)) (flO es (ordF n es) (flS l) m).2 es.length)))
  | 0, _ => by
    refine ⟨fun k h hk => by simp at hk, fun v hv => ?_⟩
    have : sumT (inT es v ((ordF n es).take 0)) (flS l).2 es.length = sumT (fun _ => false) (flS l).2 es.length := sumT_congr fun k hk => ⟨by simp [inT], fun h => by simp [inT] at h⟩
    have hz : ∀ K, sumT (fun _ => false) (flS l).2 K = (0, 0) := fun K => by
      induction K with
      | zero => rfl
      | succ K ih => unfold sumT; simpa using ih
    show l[v]! = wS (adS l[v]! (sumT (inT es v ((ordF n es).take 0)) (flS l).2 es.length))
    rw [this, hz, adS_zero, hl v hv]
  | m + 1, hm => by
    simp only [treeF, Bool.and_eq_true, decide_eq_true_eq] at ht
    obtain ⟨hnd, hlen⟩ := ht
    obtain ⟨ih1, ih2⟩ := flO_inv hg (by simp [treeF, hnd, hlen]) hl m (by omega)
    obtain ⟨t1, t2⟩ := ordN_full hlen (show m ≤ n by omega)
    obtain ⟨t3, t4⟩ := ordN_full hlen hm
    have hml : m < (ordF n es).length := by omega
    have hI := ordN_I n es m
    have hI' := ordN_I n es (m + 1)
    have htk : (ordF n es).take (m + 1) = (ordF n es).take m ++ [(ordF n es)[m]] := List.take_succ_eq_append_getElem hml
    obtain ⟨i, hi⟩ : ∃ i, i = (ordF n es)[m] := ⟨_, rfl⟩
    rw [← hi] at htk
    have hin : i ∈ ordN n es (m + 1) := by rw [← t3, htk]; simp
    have hni : i ∉ (ordF n es).take m := by
      have := hI'.nd
      rw [← t3, htk, List.nodup_append] at this
      exact fun h => this.2.2 i h i (by simp) rfl
    have hcl : ∀ u v, u ∈ (ordF n es).take m → (v, u) ∈ es → v ∈ (ordF n es).take m := fun u v hu he => by rw [t1] at hu ⊢; exact hI.pre u hu v he
    have hself : (i, i) ∉ es := by
      intro he
      have : rdyL n es (ordN n es m) ≠ [] := by
        intro e
        have := ordN_fix e 1
        rw [this] at t4
        omega
      cases hr : rdyL n es (ordN n es m) with
      | nil => exact this hr
      | cons j r =>
        have e1 := ordN_succ hr
        have e2 : j = i := by
          have h5 : ordN n es m ++ [j] = ordN n es m ++ [i] := by rw [← e1, ← t3, htk, t1]
          simpa using h5
        have hj : j ∈ rdyL n es (ordN n es m) := by rw [hr]; simp
        rw [e2] at hj
        obtain ⟨_, h6, h7⟩ := mem_rdyL.1 hj
        exact h6 (h7 i he)
    obtain ⟨s, hs⟩ : ∃ s, s = flO es (ordF n es) (flS l) m := ⟨_, rfl⟩
    have efl : flO es (ordF n es) (flS l) (m + 1) = flI es i s es.length := by rw [flO, getElem!_pos _ m hml, ← hi, ← hs]
    rw [efl]
    rw [← hs] at ih1 ih2
    by_cases hx : ∃ k, ∃ h : k < es.length, es[k].1 = i
    · obtain ⟨k0, hk0, e0⟩ := hx
      have hu : ∀ k, (h : k < es.length) → es[k].1 = i → k = k0 := fun k h e => src_uniq hnd h hk0 (e.trans e0.symm)
      rw [flI_one hk0 e0 hu (Nat.le_refl _) hk0, fStep, if_pos e0]
      have het : (i, es[k0].2) ∈ es := by rw [← e0]; exact List.getElem_mem hk0
      have hti : es[k0].2 ≠ i := fun e => hself (by rw [e] at het; exact het)
      have htm : es[k0].2 ∉ (ordF n es).take m := fun h => hni (hcl _ _ h het)
      refine ⟨fun k h hk => ?_, fun v hv => ?_⟩
      · rw [htk] at hk
        rcases List.mem_append.1 hk with hk | hk
        · have hne : k ≠ k0 := by rintro rfl; exact hni (e0 ▸ hk)
          have hnt : es[k].1 ≠ es[k0].2 := fun e => htm (e ▸ hk)
          simp only [if_neg hne, if_neg hnt]
          exact ih1 k h hk
        · simp only [List.mem_singleton] at hk
          have : k = k0 := hu k h hk
          subst this
          simp only [if_true]
          rw [if_neg (by rw [hk]; exact Ne.symm hti), hk]
      · have hsum : sumT (inT es v ((ordF n es).take (m + 1))) (fun q => if q = k0 then s.1 i else s.2 q) es.length = adS (sumT (inT es v ((ordF n es).take m)) s.2 es.length) (if es[k0].2 = v then s.1 i else (0, 0)) := by
          have eK : sumT (fun k => decide (k < es.length) && inT es v ((ordF n es).take (m + 1)) k) (fun q => if q = k0 then s.1 i else s.2 q) es.length = sumT (inT es v ((ordF n es).take (m + 1))) (fun q => if q = k0 then s.1 i else s.2 q) es.length := sumT_congr fun k hk => ⟨by simp [hk], fun _ => rfl⟩
          have eK2 : sumT (fun k => decide (k < es.length) && inT es v ((ordF n es).take m) k) s.2 es.length = sumT (inT es v ((ordF n es).take m)) s.2 es.length := sumT_congr fun k hk => ⟨by simp [hk], fun _ => rfl⟩
          rw [← eK, ← eK2, sumT_upd (P := fun k => decide (k < es.length) && inT es v ((ordF n es).take m) k) (o := s.2) (k0 := k0) (fun k hk => ⟨?_, by simp [hk]⟩) (by simp [inT, getElem!_pos es k0 hk0, e0, hni])]
          · congr 1
            simp only [if_true]
            by_cases c : es[k0].2 = v
            · rw [if_pos c, if_pos ⟨hk0, by simp [hk0, inT, getElem!_pos es k0 hk0, e0, c, htk]⟩]
            · rw [if_neg c, if_neg (fun h => by simp [inT, getElem!_pos es k0 hk0, c] at h)]
          · by_cases hkl : k < es.length
            · have hne : es[k].1 ≠ i := fun e => hk (hu k hkl e)
              simp [hkl, inT, htk, hne]
            · simp [hkl]
        rw [hsum]
        by_cases c : v = es[k0].2
        · simp only [if_pos c, if_pos c.symm]
          rw [← c, ih2 v hv, spA_w, adS_assoc]
        · simp only [if_neg c, if_neg (Ne.symm c), adS_zero]
          exact ih2 v hv
    · have hno : ∀ k, (h : k < es.length) → es[k].1 ≠ i := fun k h e => hx ⟨k, h, e⟩
      rw [flI_none (Nat.le_refl _) (fun k h _ => hno k h)]
      refine ⟨fun k h hk => ?_, fun v hv => ?_⟩
      · rw [htk] at hk
        rcases List.mem_append.1 hk with hk | hk
        · exact ih1 k h hk
        · exact absurd (by simpa using hk) (hno k h)
      · rw [ih2 v hv]
        congr 2
        refine sumT_congr fun k hk => ⟨?_, fun _ => rfl⟩
        simp [inT, getElem!_pos es k hk, htk, hno k hk]
def balS (es : List Edg) (fl : List Sp) (s0 : Sp) (v : Nat) : Nat → Sp
  | 0 => s0
  | k + 1 => if es[k]!.2 = v then spA (balS es fl s0 v k) fl[k]! else balS es fl s0 v k
theorem balS_eq (es : List Edg) (fl : List Sp) (s0 : Sp) (h0 : wS s0 = s0) (v : Nat) : ∀ K, balS es fl s0 v K = wS (adS s0 (sumT (fun k => decide (es[k]!.2 = v)) (fun k => fl[k]!) K))
  | 0 => by simp [balS, sumT, adS_zero, h0]
  | K + 1 => by
    have ih := balS_eq es fl s0 h0 v K
    unfold balS sumT
    by_cases c : es[K]!.2 = v
    · rw [if_pos c, if_pos (by simpa using c), ih, spA_w, adS_assoc]
    · rw [if_neg c, if_neg (by simpa using c), ih]
theorem bal_law {n : Nat} {es : List Edg} (hg : inG n es) (ht : treeF n es = true) {l : List Sp} (hl : ∀ v, v < n → wS l[v]! = l[v]!) {i : Nat} (hi : i < es.length) : (flowsF n es l)[i]! = balS es (flowsF n es l) l[es[i].1]! es[i].1 es.length := by
  have ht2 := ht
  simp only [treeF, Bool.and_eq_true, decide_eq_true_eq] at ht2
  obtain ⟨h1, h2⟩ := flO_inv hg ht hl n (Nat.le_refl _)
  have hv := (hg _ (List.getElem_mem hi)).1
  have hfull : (ordF n es).take n = ordF n es := List.take_of_length_le (by omega)
  have hI := ordN_I n es n
  have hmem : ∀ v, v < n → v ∈ ordF n es := by
    intro v hv
    apply Classical.byContradiction
    intro hn
    have hnd : (v :: ordF n es).Nodup := List.nodup_cons.2 ⟨hn, hI.nd⟩
    have hsub : (v :: ordF n es) ⊆ List.range n := by
      intro u hu
      rcases List.mem_cons.1 hu with rfl | hu
      · simpa using hv
      · simpa using hI.lt u hu
    have := List.Nodup.length_le_of_subset hnd hsub
    simp at this
    omega
  have eF : ∀ k, k < es.length → (flowsF n es l)[k]! = (flO es (ordF n es) (flS l) n).2 k := fun k hk => by
    unfold flowsF
    rw [ht2.2, getElem!_pos _ k (by simpa using hk)]
    simp
  rw [balS_eq _ _ _ (hl _ hv), eF i hi, h1 i hi (by rw [hfull]; exact hmem _ hv), h2 _ hv]
  congr 2
  refine sumT_congr fun k hk => ⟨?_, fun _ => (eF k hk).symm⟩
  have := hmem _ (hg _ (List.getElem_mem hk)).1
  simp [inT, getElem!_pos es k hk, hfull, this]
end Go.Gv

set_option linter.unusedSimpArgs false
namespace Go.Gv
def sumF (f : Nat → Int) : Nat → Int
  | 0 => 0
  | k + 1 => sumF f k + f k
theorem sumF_congr {f g : Nat → Int} : ∀ {K : Nat}, (∀ k, k < K → f k = g k) → sumF f K = sumF g K
  | 0, _ => rfl
  | K + 1, h => by unfold sumF; rw [sumF_congr (K := K) (fun k hk => h k (by omega)), h K (by omega)]
theorem sumF_add (f g : Nat → Int) : ∀ K, sumF (fun k => f k + g k) K = sumF f K + sumF g K
  | 0 => rfl
  | K + 1 => by unfold sumF; rw [sumF_add f g K]; omega
theorem sumF_zero {f : Nat → Int} : ∀ {K : Nat}, (∀ k, k < K → f k = 0) → sumF f K = 0
  | 0, _ => rfl
  | K + 1, h => by unfold sumF; rw [sumF_zero (K := K) (fun k hk => h k (by omega)), h K (by omega)]; rfl
theorem sumF_one {f : Nat → Int} {k0 : Nat} : ∀ {K : Nat}, k0 < K → (∀ k, k < K → k ≠ k0 → f k = 0) → sumF f K = f k0
  | 0, h, _ => by omega
  | K + 1, h, h2 => by
    unfold sumF
    by_cases e : K = k0
    · subst e
      rw [sumF_zero (fun k hk => h2 k (by omega) (by omega))]; omega
    · rw [sumF_one (by omega) (fun k hk hn => h2 k (by omega) hn), h2 K (by omega) e]; omega
theorem sumF_swap (f : Nat → Nat → Int) (A : Nat) : ∀ B, sumF (fun b => sumF (fun a => f a b) A) B = sumF (fun a => sumF (fun b => f a b) B) A
  | 0 => (sumF_zero fun _ _ => rfl).symm
  | B + 1 => by
    have e : (fun a => sumF (fun b => f a b) (B + 1)) = fun a => sumF (fun b => f a b) B + f a B := rfl
    rw [e, sumF_add, ← sumF_swap f A B]
    rfl
theorem sumF_shift (f : Nat → Int) : ∀ M, sumF f (M + 1) = f 0 + sumF (fun m => f (m + 1)) M
  | 0 => by simp [sumF]
  | M + 1 => by
    have ih := sumF_shift f M
    show sumF f (M + 1) + f (M + 1) = f 0 + (sumF (fun m => f (m + 1)) M + f (M + 1))
    omega
theorem sumF_if (c : Prop) [Decidable c] (f : Nat → Int) (K : Nat) : sumF (fun k => if c then f k else 0) K = if c then sumF f K else 0 := by
  by_cases h : c
  · rw [if_pos h]; exact sumF_congr fun k _ => if_pos h
  · rw [if_neg h]; exact sumF_zero fun k _ => if_neg h
theorem sumF_le {f g : Nat → Int} : ∀ {K : Nat}, (∀ k, k < K → f k ≤ g k) → sumF f K ≤ sumF g K
  | 0, _ => Int.le_refl _
  | K + 1, h => by
    have := sumF_le (K := K) (fun k hk => h k (by omega))
    have := h K (by omega)
    unfold sumF
    omega
theorem sumF_const (B : Int) : ∀ K : Nat, sumF (fun _ => B) K = K * B
  | 0 => by simp [sumF]
  | K + 1 => by unfold sumF; rw [sumF_const B K]; push_cast; rw [Int.add_mul]; omega
def stp (es : List Edg) (v : Nat) : Option Nat := (es.find? fun e => e.1 == v).map (·.2)
def wat (es : List Edg) : Nat → Nat → Option Nat
  | 0, v => some v
  | m + 1, v => (wat es m v).bind (stp es)
def upB (n : Nat) (es : List Edg) (v x : Nat) : Bool := (List.range n).any fun m => wat es m v == some x
theorem stp_some {es : List Edg} {y z : Nat} (h : stp es y = some z) : (y, z) ∈ es := by
  unfold stp at h
  cases e : es.find? (fun e => e.1 == y) with
  | none => rw [e] at h; cases h
  | some p =>
    rw [e] at h
    have h1 := List.find?_some e
    have h2 := List.mem_of_find?_eq_some e
    simp at h1 h
    obtain ⟨a, b⟩ := p
    simp only at h1 h
    subst h1 h
    exact h2
theorem stp_of {es : List Edg} (hnd : (es.map (·.1)).Nodup) {y z : Nat} (h : (y, z) ∈ es) : stp es y = some z := by
  unfold stp
  cases e : es.find? (fun e => e.1 == y) with
  | none =>
    have := List.find?_eq_none.1 e _ h
    simp at this
  | some p =>
    have h1 := List.find?_some e
    have h2 := List.mem_of_find?_eq_some e
    obtain ⟨a, b⟩ := p
    simp at h1
    subst h1
    obtain ⟨k, hk, ek⟩ := List.getElem_of_mem h
    obtain ⟨j, hj, ej⟩ := List.getElem_of_mem h2
    have := src_uniq hnd hk hj (by rw [ek, ej])
    subst this
    rw [ek] at ej
    cases ej
    rfl
theorem ord_rank {n : Nat} {es : List Edg} (hg : inG n es) (hlen : (ordF n es).length = n) {u v : Nat} (he : (u, v) ∈ es) : (ordF n es).idxOf u < (ordF n es).idxOf v ∧ (ordF n es).idxOf v < n := by
  have hI := ordN_I n es n
  have hmem : ∀ v, v < n → v ∈ ordF n es := by
    intro v hv
    apply Classical.byContradiction
    intro hn
    have hnd : (v :: ordF n es).Nodup := List.nodup_cons.2 ⟨hn, hI.nd⟩
    have hsub : (v :: ordF n es) ⊆ List.range n := by
      intro u hu
      rcases List.mem_cons.1 hu with rfl | hu
      · simpa using hv
      · simpa using hI.lt u hu
    have := List.Nodup.length_le_of_subset hnd hsub
    simp at this
    omega
  obtain ⟨h1, h2⟩ := hg _ he
  have hv := hmem v h2
  have hi := List.idxOf_lt_length_iff.2 hv
  obtain ⟨m, hm⟩ : ∃ m, m = (ordF n es).idxOf v := ⟨_, rfl⟩
  rw [← hm] at hi ⊢
  have hget : (ordF n es)[m] = v := by
    subst hm
    exact List.getElem_idxOf hi
  obtain ⟨t1, t2⟩ := ordN_full hlen (show m ≤ n by omega)
  obtain ⟨t3, t4⟩ := ordN_full hlen (show m + 1 ≤ n by omega)
  have htk : (ordF n es).take (m + 1) = (ordF n es).take m ++ [(ordF n es)[m]] := List.take_succ_eq_append_getElem hi
  have hu : u ∈ (ordF n es).take m := by
    rw [t1]
    cases hr : rdyL n es (ordN n es m) with
    | nil =>
      have := ordN_fix hr 1
      rw [this] at t4
      omega
    | cons j r =>
      have e1 := ordN_succ hr
      have e2 : j = v := by
        have h5 : ordN n es m ++ [j] = ordN n es m ++ [v] := by rw [← e1, ← t3, htk, t1, hget]
        simpa using h5
      have hj : j ∈ rdyL n es (ordN n es m) := by rw [hr]; simp
      rw [e2] at hj
      exact (mem_rdyL.1 hj).2.2 u he
  refine ⟨?_, by omega⟩
  obtain ⟨a, ha, e⟩ := List.getElem_of_mem hu
  have ha2 : a < m := by simp at ha; omega
  have e2 : (ordF n es)[a]'(by omega) = u := by rw [← e]; simp
  have e3 : (ordF n es).idxOf ((ordF n es)[a]'(by omega)) = a := hI.nd.idxOf_getElem a (show a < (ordF n es).length by omega)
  rw [e2] at e3
  omega
theorem wat_rank {n : Nat} {es : List Edg} (hg : inG n es) (hlen : (ordF n es).length = n) : ∀ {m v x : Nat}, wat es m v = some x → (ordF n es).idxOf v + m ≤ (ordF n es).idxOf x ∧ (m ≠ 0 → (ordF n es).idxOf x < n)
  | 0, v, x, h => by
    simp [wat] at h
    subst h
    exact ⟨Nat.le_refl _, fun h => absurd rfl h⟩
  | m + 1, v, x, h => by
    unfold wat at h
    cases e : wat es m v with
    | none => rw [e] at h; cases h
    | some y =>
      rw [e] at h
      obtain ⟨i1, _⟩ := wat_rank hg hlen e
      obtain ⟨r1, r2⟩ := ord_rank hg hlen (stp_some h)
      exact ⟨by omega, fun _ => r2⟩
def watW (n : Nat) (es : List Edg) (g : Nat → Int) (m x : Nat) : Int := sumF (fun v => if wat es m v = some x then g v else 0) n
theorem watW_succ {n : Nat} {es : List Edg} (hnd : (es.map (·.1)).Nodup) (g : Nat → Int) (m x : Nat) : watW n es g (m + 1) x = sumF (fun k => if es[k]!.2 = x then watW n es g m es[k]!.1 else 0) es.length := by
  have h1 : ∀ v, v < n → (if wat es (m + 1) v = some x then g v else 0) = sumF (fun k => if es[k]!.2 = x then (if wat es m v = some es[k]!.1 then g v else 0) else 0) es.length := fun v _ => by
    cases e : wat es m v with
    | none =>
      have : wat es (m + 1) v = none := by unfold wat; rw [e]; rfl
      rw [this, if_neg (by simp), sumF_zero (fun k _ => by simp)]
    | some y =>
      have e1 : wat es (m + 1) v = stp es y := by
        show (wat es m v).bind (stp es) = _
        rw [e]; rfl
      rw [e1]
      cases e2 : stp es y with
      | none =>
        rw [if_neg (by simp), sumF_zero fun k hk => ?_]
        by_cases c : es[k]!.2 = x
        · rw [if_pos c]
          by_cases d : y = es[k]!.1
          · have := stp_of (es := es) hnd (y := y) (z := es[k]!.2) (by rw [d, getElem!_pos es k hk]; exact List.getElem_mem hk)
            rw [e2] at this; cases this
          · rw [if_neg (by simpa using d)]
        · rw [if_neg c]
      | some z =>
        obtain ⟨k0, hk0, ek0⟩ := List.getElem_of_mem (stp_some e2)
        rw [sumF_one (k0 := k0) hk0 fun k hk hne => ?_]
        · rw [getElem!_pos es k0 hk0, ek0]
          simp
        · by_cases d : y = es[k]!.1
          · exact absurd (src_uniq hnd hk hk0 (by rw [ek0, ← getElem!_pos es k hk, d])) hne
          · rw [if_neg (show ¬ some y = some es[k]!.1 by simpa using d)]; simp
  unfold watW
  rw [sumF_congr h1, sumF_swap]
  exact sumF_congr fun k _ => sumF_if _ _ _
theorem watW_zero {n : Nat} {es : List Edg} (g : Nat → Int) {x : Nat} (hx : x < n) : watW n es g 0 x = g x := by
  unfold watW
  rw [sumF_one (k0 := x) hx fun k _ hne => ?_]
  · simp [wat]
  · simp [wat, hne]
theorem watW_end {n : Nat} {es : List Edg} (hg : inG n es) (hlen : (ordF n es).length = n) (g : Nat → Int) {m x : Nat} (hm : n ≤ m) : watW n es g m x = 0 := by
  refine sumF_zero fun v hv => if_neg fun h => ?_
  obtain ⟨h1, h2⟩ := wat_rank hg hlen h
  have := h2 (by omega)
  omega
def upS (n : Nat) (es : List Edg) (g : Nat → Int) (x : Nat) : Int := sumF (fun v => if upB n es v x = true then g v else 0) n
theorem upS_wat {n : Nat} {es : List Edg} (hg : inG n es) (hlen : (ordF n es).length = n) (g : Nat → Int) (x : Nat) : upS n es g x = sumF (fun m => watW n es g m x) n := by
  unfold watW upS
  rw [sumF_swap]
  refine sumF_congr fun v _ => ?_
  by_cases h : upB n es v x = true
  · rw [if_pos h]
    obtain ⟨m, hm, e⟩ := List.any_eq_true.1 h
    simp at hm e
    rw [sumF_one (k0 := m) hm fun k _ hne => if_neg fun h2 => ?_, if_pos e]
    have a := (wat_rank hg hlen e).1
    have b := (wat_rank hg hlen h2).1
    rcases Nat.lt_or_gt_of_ne hne with h3 | h3
    · have : ∀ d, wat es (k + d) v = (wat es d x) := fun d => by
        induction d with
        | zero => exact h2
        | succ d ih =>
          show (wat es (k + d) v).bind _ = _
          rw [ih]; rfl
      have h4 := this (m - k)
      rw [show k + (m - k) = m by omega, e] at h4
      have := (wat_rank hg hlen h4.symm).1
      omega
    · have : ∀ d, wat es (m + d) v = (wat es d x) := fun d => by
        induction d with
        | zero => exact e
        | succ d ih =>
          show (wat es (m + d) v).bind _ = _
          rw [ih]; rfl
      have h4 := this (k - m)
      rw [show m + (k - m) = k by omega, h2] at h4
      have := (wat_rank hg hlen h4.symm).1
      omega
  · rw [if_neg h, sumF_zero fun k hk => if_neg fun h2 => h (List.any_eq_true.2 ⟨k, by simpa using hk, by simp [h2]⟩)]
theorem upS_bal {n : Nat} {es : List Edg} (hg : inG n es) (ht : treeF n es = true) (g : Nat → Int) {x : Nat} (hx : x < n) : upS n es g x = g x + sumF (fun k => if es[k]!.2 = x then upS n es g es[k]!.1 else 0) es.length := by
  simp only [treeF, Bool.and_eq_true, decide_eq_true_eq] at ht
  obtain ⟨hnd, hlen⟩ := ht
  have e1 : sumF (fun m => watW n es g m x) n = sumF (fun m => watW n es g m x) (n + 1) := by
    show _ = sumF _ n + watW n es g n x
    rw [watW_end hg hlen g (Nat.le_refl _)]; omega
  rw [upS_wat hg hlen, e1, sumF_shift, watW_zero g hx]
  congr 1
  rw [sumF_congr fun m _ => watW_succ hnd g m x, sumF_swap]
  refine sumF_congr fun k _ => ?_
  rw [sumF_if]
  by_cases c : es[k]!.2 = x
  · rw [if_pos c, if_pos c, upS_wat hg hlen]
  · rw [if_neg c, if_neg c]
theorem upS_range {n : Nat} {es : List Edg} {g : Nat → Int} {B : Int} (hB : 0 ≤ B) (h : ∀ v, v < n → 0 ≤ g v ∧ g v ≤ B) (x : Nat) : 0 ≤ upS n es g x ∧ upS n es g x ≤ n * B := by
  unfold upS
  constructor
  · have := sumF_le (f := fun _ => 0) (g := fun v => if upB n es v x = true then g v else 0) (K := n) fun k hk => by
      have := h k hk
      show 0 ≤ if upB n es k x = true then g k else 0
      split <;> omega
    rw [sumF_const] at this
    simpa using this
  · rw [← sumF_const]
    exact sumF_le fun k hk => by
      have := h k hk
      show (if upB n es k x = true then g k else 0) ≤ B
      split <;> omega
theorem sumT_1 (P : Nat → Bool) (o : Nat → Sp) : ∀ K, (sumT P o K).1 = sumF (fun k => if P k = true then (o k).1 else 0) K
  | 0 => rfl
  | K + 1 => by
    have ih := sumT_1 P o K
    unfold sumT sumF
    by_cases h : P K = true
    · rw [if_pos h, if_pos h, ← ih]; rfl
    · rw [if_neg h, if_neg h, ← ih]; omega
theorem sumT_2 (P : Nat → Bool) (o : Nat → Sp) : ∀ K, (sumT P o K).2 = sumF (fun k => if P k = true then (o k).2 else 0) K
  | 0 => rfl
  | K + 1 => by
    have ih := sumT_2 P o K
    unfold sumT sumF
    by_cases h : P K = true
    · rw [if_pos h, if_pos h, ← ih]; rfl
    · rw [if_neg h, if_neg h, ← ih]; omega
theorem flow_sum {n : Nat} {es : List Edg} (hn : n ≤ 300) (hg : inG n es) (ht : treeF n es = true) {l : List Sp} (hl : ∀ v, v < n → 0 ≤ l[v]!.1 ∧ l[v]!.1 ≤ l[v]!.2 ∧ l[v]!.2 ≤ 1099511627776) :
    ∀ (r i : Nat) (hi : i < es.length), (ordF n es).idxOf es[i].1 < r → (flowsF n es l)[i]! = (upS n es (fun v => l[v]!.1) es[i].1, upS n es (fun v => l[v]!.2) es[i].1)
  | 0, _, _, h => by omega
  | r + 1, i, hi, hr => by
    have hw : ∀ v, v < n → wS l[v]! = l[v]! := fun v hv => by
      have := hl v hv
      unfold wS
      rw [wrap_i64 rfl (by omega), wrap_i64 rfl (by omega)]
    have hb := bal_law hg ht hw hi
    have hv := (hg _ (List.getElem_mem hi)).1
    have ht2 := ht
    simp only [treeF, Bool.and_eq_true, decide_eq_true_eq] at ht2
    have ih : ∀ k, k < es.length → es[k]!.2 = es[i].1 → (flowsF n es l)[k]! = (upS n es (fun v => l[v]!.1) es[k]!.1, upS n es (fun v => l[v]!.2) es[k]!.1) := fun k hk e => by
      rw [getElem!_pos es k hk] at e ⊢
      have hm : (es[k].1, es[i].1) ∈ es := by rw [← e]; exact List.getElem_mem hk
      have := (ord_rank hg ht2.2 hm).1
      exact flow_sum hn hg ht hl r k hk (by omega)
    have r1 := upS_range (n := n) (es := es) (g := fun v => l[v]!.1) (B := 1099511627776) (by omega) (fun v hv => by have := hl v hv; omega) es[i].1
    have r2 := upS_range (n := n) (es := es) (g := fun v => l[v]!.2) (B := 1099511627776) (by omega) (fun v hv => by have := hl v hv; omega) es[i].1
    rw [hb, balS_eq _ _ _ (hw _ hv)]
    have s1 := upS_bal hg ht (fun v => l[v]!.1) hv
    have s2 := upS_bal hg ht (fun v => l[v]!.2) hv
    have e1 : (sumT (fun k => decide (es[k]!.2 = es[i].1)) (fun k => (flowsF n es l)[k]!) es.length).1 = sumF (fun k => if es[k]!.2 = es[i].1 then upS n es (fun v => l[v]!.1) es[k]!.1 else 0) es.length := by
      rw [sumT_1]
      refine sumF_congr fun k hk => ?_
      by_cases c : es[k]!.2 = es[i].1
      · rw [if_pos (by simpa using c), if_pos c, ih k hk c]
      · rw [if_neg (by simpa using c), if_neg c]
    have e2 : (sumT (fun k => decide (es[k]!.2 = es[i].1)) (fun k => (flowsF n es l)[k]!) es.length).2 = sumF (fun k => if es[k]!.2 = es[i].1 then upS n es (fun v => l[v]!.2) es[k]!.1 else 0) es.length := by
      rw [sumT_2]
      refine sumF_congr fun k hk => ?_
      by_cases c : es[k]!.2 = es[i].1
      · rw [if_pos (by simpa using c), if_pos c, ih k hk c]
      · rw [if_neg (by simpa using c), if_neg c]
    have e3 : adS l[es[i].1]! (sumT (fun k => decide (es[k]!.2 = es[i].1)) (fun k => (flowsF n es l)[k]!) es.length) = (upS n es (fun v => l[v]!.1) es[i].1, upS n es (fun v => l[v]!.2) es[i].1) := by
      unfold adS
      rw [e1, e2, s1, s2]
    rw [e3]
    unfold wS
    rw [wrap_i64 rfl (by simp only; omega), wrap_i64 rfl (by simp only; omega)]
theorem flow_up {n : Nat} {es : List Edg} (hn : n ≤ 300) (hg : inG n es) (ht : treeF n es = true) {l : List Sp} (hl : ∀ v, v < n → 0 ≤ l[v]!.1 ∧ l[v]!.1 ≤ l[v]!.2 ∧ l[v]!.2 ≤ 1099511627776) {i : Nat} (hi : i < es.length) : (flowsF n es l)[i]! = (upS n es (fun v => l[v]!.1) es[i].1, upS n es (fun v => l[v]!.2) es[i].1) :=
  flow_sum hn hg ht hl _ i hi (Nat.lt_succ_self _)
end Go.Gv

set_option linter.unusedSimpArgs false
namespace Go.Gv
inductive Pth (es : List Edg) : Nat → Nat → Prop
  | refl (v : Nat) : Pth es v v
  | step {u v w : Nat} : (u, v) ∈ es → Pth es v w → Pth es u w
theorem Pth.snoc {es : List Edg} {u v w : Nat} (h : Pth es u v) (e : (v, w) ∈ es) : Pth es u w := by
  induction h with
  | refl v => exact .step e (.refl _)
  | step e' _ ih => exact .step e' (ih e)
theorem Pth.trans {es : List Edg} {u v w : Nat} (h : Pth es u v) (h2 : Pth es v w) : Pth es u w := by
  induction h with
  | refl v => exact h2
  | step e _ ih => exact .step e (ih h2)
def RR (es : List Edg) (fr : List Nat) (v : Nat) : Prop := ∃ s ∈ fr, Pth es s v
noncomputable def rB (es : List Edg) (fr : List Nat) (v : Nat) : Bool := @decide (RR es fr v) (Classical.propDecidable _)
theorem rB_iff {es : List Edg} {fr : List Nat} {v : Nat} : rB es fr v = true ↔ RR es fr v := by
  unfold rB
  exact @decide_eq_true_iff _ (Classical.propDecidable _)
theorem rB_closed {es : List Edg} {fr : List Nat} {out : Nat → Bool} (h1 : ∀ v, out v = true → RR es fr v) (h2 : ∀ s ∈ fr, out s = true) (h3 : ∀ u w, (u, w) ∈ es → out u = true → out w = true) (v : Nat) : out v = rB es fr v := by
  have key : ∀ {u w : Nat}, Pth es u w → out u = true → out w = true := fun {u w} h => by
    induction h with
    | refl v => exact _root_.id
    | step e _ ih => exact fun hu => ih (h3 _ _ e hu)
  rw [Bool.eq_iff_iff, rB_iff]
  refine ⟨h1 v, fun ⟨s, hs, hp⟩ => key hp (h2 s hs)⟩
def boolA (n : Nat) (f : Nat → Bool) : List (List D) := (List.range n).map fun v => [.bool (f v)]
theorem boolA_len (n : Nat) (f : Nat → Bool) : (boolA n f).length = n := by simp [boolA]
theorem boolA_get {n v : Nat} (f : Nat → Bool) (h : v < n) : (boolA n f)[v]? = some [.bool (f v)] := by simp [boolA, h]
theorem boolA_set {n v : Nat} (f : Nat → Bool) (x : Bool) : (boolA n f).set v [.bool x] = boolA n fun u => if u = v then x else f u := by
  unfold boolA
  rw [set_rm]
  apply List.map_congr_left
  intro u _
  by_cases h : u = v <;> simp [h]
theorem boolA_congr {n : Nat} {f g : Nat → Bool} (h : ∀ v, v < n → f v = g v) : boolA n f = boolA n g := by
  unfold boolA
  apply List.map_congr_left
  intro v hv
  rw [h v (by simpa using hv)]
theorem boolA_V (n : Nat) (f : Nat → Bool) : (boolA n f).map (fun e => e.map cellV) = boolA n f := by
  unfold boolA
  rw [List.map_map]
  apply List.map_congr_left
  intro v _
  simp [cellV]
def wtS (f : Nat → Nat) : Nat → Nat
  | 0 => 0
  | k + 1 => wtS f k + f k
theorem wtS_congr {f g : Nat → Nat} : ∀ {K : Nat}, (∀ k, k < K → f k = g k) → wtS f K = wtS g K
  | 0, _ => rfl
  | K + 1, h => by unfold wtS; rw [wtS_congr (K := K) (fun k hk => h k (by omega)), h K (by omega)]
theorem wtS_upd {f g : Nat → Nat} {i : Nat} : ∀ {K : Nat}, i < K → (∀ k, k ≠ i → g k = f k) → g i = 0 → wtS f K = wtS g K + f i
  | 0, h, _, _ => by omega
  | K + 1, h, h1, h2 => by
    unfold wtS
    by_cases e : K = i
    · subst e
      rw [wtS_congr (f := g) (g := f) (fun k hk => h1 k (by omega)), h2]
      omega
    · rw [wtS_upd (f := f) (g := g) (K := K) (by omega) h1 h2, h1 K e]
      omega
theorem wtS_le {f : Nat → Nat} {B : Nat} : ∀ {K : Nat}, (∀ k, k < K → f k ≤ B) → wtS f K ≤ K * B
  | 0, _ => by simp [wtS]
  | K + 1, h => by
    have := wtS_le (K := K) (fun k hk => h k (by omega))
    have := h K (by omega)
    unfold wtS
    rw [Nat.add_mul]
    omega
end Go.Gv

set_option linter.unusedSimpArgs false
namespace Go.Gv
variable {C : CC} (hC : Closed prog C)
include hC
theorem Clone_c (b : Bool) (xs : List Int) (h2 : xs.length < 2 ^ 40) : C 42 [slx b (xs.map fun n => [.int .i64 n])] .any [.own 1 (xs.map fun n => [.int .i64 n])] := by
  cases xs with
  | nil =>
    cases b with
    | true =>
      show C 42 [.nils] .any [.own 1 []]
      refine startF hC (nf := N42_slices_Clone__int_int) rfl rfl ?_
      simp [N42_slices_Clone__int_int]
    | false =>
      show C 42 [.sl []] .any [.own 1 []]
      refine startF hC (nf := N42_slices_Clone__int_int) rfl rfl ?_
      simp [N42_slices_Clone__int_int]
  | cons x xs =>
    have e : slx b ((x :: xs).map fun n => [D.int .i64 n]) = .sl ((x :: xs).map fun n => [D.int .i64 n]) := by cases b <;> rfl
    rw [e]
    obtain ⟨l, hl⟩ : ∃ l, l = x :: xs := ⟨_, rfl⟩
    rw [← hl] at h2 ⊢
    have h : 0 < l.length := by rw [hl]; simp
    refine startF hC (nf := N42_slices_Clone__int_int) rfl rfl ?_
    simp [N42_slices_Clone__int_int]
    refine ⟨fun _ => ?_, fun h0 => ?_⟩
    · have : l.length < 1099511627776 := h2
      omega
    · subst h0
      simp at h
end Go.Gv
