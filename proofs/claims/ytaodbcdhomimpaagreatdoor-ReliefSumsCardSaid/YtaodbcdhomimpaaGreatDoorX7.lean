/-
  Texts of the proof: GvR, GvEsu, GvN, ItM, GvT, GvT5, GvT6, GvU, K1, K3, GvW, GvX, H1.
-/
import Derived.Test.YtaodbcdhomimpaaGreatDoorX5
import Derived.SizedLaws
import Derived.ProofKit
import Derived.Test.YtaodbcdhomimpaaGreatDoorX6
import Derived.Test.YtaodbcdhomimpaaGreatDoorProg
import Derived.KernelRfl
import Derived.Shelf.Small.Bits
import Derived.Shelf.Small.Wraps
import Derived.Shelf.Strconv.Itoa0
import Derived.Shelf.Strconv.Itoa1
import Derived.Shelf.LaysM
import Derived.Shelf.Strconv.Itoa2
import Derived.Shelf.Strconv.Itoa3
import Derived.Shelf.Bits.Mul64
import Derived.Shelf.Slices.Turned
import Derived.Shelf.Slices.Equal
import Derived.Ground.Names2Prog
import Derived.Shelf.Slices.SearchI
import Derived.Shelf.Slices.Empties2
import Derived.Ground.SlsfProg
import Derived.Shelf.SlSortCmp.Insertion
import Derived.Shelf.SlSortCmp.SiftDown1
import Derived.Shelf.SlSortCmp.HeapSort1
import Derived.Shelf.SlSortCmp.Insertion1
import Derived.Shelf.SlSortCmp.Median1
import Derived.Shelf.SlSortCmp.Pivot1
import Derived.Shelf.SlSortCmp.ReverseRange1
import Derived.Shelf.SlSortCmp.PartialInsertion1
import Derived.Shelf.SlSortCmp.PartitionEqual1
import Derived.Shelf.SlSortCmp.Partition1
import Derived.Shelf.SlSortCmp.Pdq1
import Derived.Shelf.SlSortCmp.Whole1
import Derived.Shelf.SlSortCmp.NoneTotal
import Derived.Sort.Row
import Derived.Sort.Grow
import Derived.Shelf.SlSortCmp.WholeK
import Derived.Shelf.Small.Strs
set_option linter.all false
namespace Go.Gv
open Go.RowKit Go.ChangeShapes Go.WideShapes Go.ChangeAt
inductive Sh where
  | int (k : IntKind)
  | bool
  | str
  | sl (row : List Sh)
mutual
def HasSh : Sh → D → Prop
  | .int k, d => ∃ n, d = .int k n ∧ (Lit.int k n).wf = true
  | .bool, d => ∃ b, d = .bool b
  | .str, d => ∃ s, d = .str s ∧ s.length < 140737488355328
  | .sl row, d => ∃ es, (d = .sl es ∨ (d = .nils ∧ es = [])) ∧ es.length < 140737488355328 ∧ ∀ e ∈ es, HasShL row e
def HasShL : List Sh → List D → Prop
  | [], ds => ds = []
  | s :: ss, ds => ∃ d r, ds = d :: r ∧ HasSh s d ∧ HasShL ss r
end
theorem HasShL.length : ∀ {ss : List Sh} {ds : List D}, HasShL ss ds → ds.length = ss.length
  | [], ds, h => by simp only [HasShL] at h; simp [h]
  | s :: ss, ds, h => by
    simp only [HasShL] at h
    obtain ⟨d, r, rfl, _, h2⟩ := h
    simp [HasShL.length h2]
theorem HasShL.append : ∀ {ss ts : List Sh} {ds es : List D}, HasShL ss ds → HasShL ts es → HasShL (ss ++ ts) (ds ++ es)
  | [], ts, ds, es, h, h' => by simp only [HasShL] at h; subst h; exact h'
  | s :: ss, ts, ds, es, h, h' => by
    simp only [HasShL] at h
    obtain ⟨d, r, rfl, h1, h2⟩ := h
    exact ⟨d, r ++ es, rfl, h1, HasShL.append h2 h'⟩
def fldsSh (P : Program) (rec : TypeId → Option (List Sh)) : List Field → Nat → Option (List Sh)
  | [], _ => some []
  | f :: fs, off => if f.offset = off then (match rec f.type with
      | some l => if l.length = P.cellsOf f.type then (match fldsSh P rec fs (off + l.length) with
        | some r => some (l ++ r)
        | none => none) else none
      | none => none) else none
def tySh (P : Program) : Nat → TypeId → Option (List Sh)
  | 0, _ => none
  | n + 1, t => match P.underlying t with
    | some .bool => some [.bool]
    | some (.int k) => some [.int k]
    | some .string => some [.str]
    | some (.slice e) => (match tySh P n e with
      | some l => if l.length = P.cellsOf e ∧ 1 ≤ P.bytesOf e then some [.sl l] else none
      | none => none)
    | some (.struct fs) => (match fldsSh P (tySh P n) fs.toList 0 with
      | some l => if l.length = P.cellsOf t then some l else none
      | none => none)
    | _ => none
section
variable {H : Type} {enc : TypeId × Value → H} {P : Program} {F : Fid} {w : World} {sp : Nat → Bool}
abbrev cellM (w : World) : Mem := fun p => w.cell? p
def Reads (enc : TypeId × Value → H) (P : Program) (F : Fid) (w : World) (sp : Nat → Bool) (n : Nat) (t : TypeId) (shs : List Sh) : Prop :=
  ∀ (cs : List Value) (d : DataW H) (ps : List MemPlace), DataW.trod enc P w 0 sp true n t cs = some (d, ps) → (d.weights P t).all (· ≤ reachBytes) = true → ∃ ds, HasShL shs ds ∧ RepL F (cellM w) ds cs
theorem mapM_cons_some {α β : Type} {f : α → Option β} {x : α} {l : List α} {ys : List β} (h : (x :: l).mapM f = some ys) : ∃ y r, f x = some y ∧ l.mapM f = some r ∧ ys = y :: r := by
  rw [List.mapM_cons] at h
  cases hx : f x with
  | none => rw [hx] at h; cases h
  | some y =>
    cases hl : l.mapM f with
    | none => rw [hx, hl] at h; cases h
    | some r =>
      rw [hx, hl] at h
      exact ⟨y, r, rfl, rfl, by cases h; rfl⟩
theorem reads_flds {n m : Nat} (ih : ∀ t shs, tySh P m t = some shs → Reads enc P F w sp n t shs) {cs : List Value} : ∀ (fs : List Field) (off : Nat) (xs : List (DataW H × List MemPlace)) (shs : List Sh),
    (fs.mapM fun f => DataW.trod enc P w 0 sp true n f.type ((cs.drop f.offset).take (P.cellsOf f.type))) = some xs → fldsSh P (tySh P m) fs off = some shs → (DataW.weightsEach P (fs.map (·.type)) (xs.map (·.1))).all (· ≤ reachBytes) = true → cs.length = off + shs.length →
      ∃ ds, HasShL shs ds ∧ RepL F (cellM w) ds (cs.drop off)
  | [], off, xs, shs, _, h2, _, h4 => by
    cases h2
    exact ⟨[], rfl, by simp only [RepL]; exact List.drop_of_length_le (by simpa using Nat.le_of_eq h4)⟩
  | f :: fs, off, xs, shs, h1, h2, h3, h4 => by
    obtain ⟨y, r, e1, e2, rfl⟩ := mapM_cons_some h1
    simp only [fldsSh] at h2
    split at h2
    case isFalse => cases h2
    rename_i ho
    split at h2
    case h_2 => cases h2
    rename_i l hl
    split at h2
    case isFalse => cases h2
    rename_i hlen
    split at h2
    case h_2 => cases h2
    rename_i rs hr
    cases h2
    simp only [List.map_cons, DataW.weightsEach, List.all_append, Bool.and_eq_true] at h3
    rw [List.length_append] at h4
    obtain ⟨ds1, g1, g2⟩ := ih f.type l hl _ y.1 y.2 e1 h3.1
    obtain ⟨ds2, g3, g4⟩ := reads_flds ih fs (off + l.length) r rs e2 hr h3.2 (by omega)
    refine ⟨ds1 ++ ds2, g1.append g3, ?_⟩
    rw [ho, ← hlen] at g2
    have := g2.append g4
    rwa [← List.drop_drop, List.take_append_drop] at this
theorem reads_rows {n k : Nat} {e : TypeId} {l : List Sh} {a : Addr} (hl : l.length = k) (ih : Reads enc P F w sp n e l) : ∀ (c s : Nat) (xs : List (DataW H × List MemPlace)),
    ((List.range' s c).mapM fun i => (w.cells? 0 (a.add (i * k)) k).bind (DataW.trod enc P w 0 sp true n e)) = some xs → (DataW.weightsAll P e (xs.map (·.1))).all (· ≤ reachBytes) = true →
      ∃ (es : List (List D)) (vs : List Value), es.length = c ∧ xs.length = c ∧ (∀ r ∈ es, HasShL l r) ∧ RepLL F (cellM w) es vs ∧ ∀ j v, vs[j]? = some v → w.cell? (a.add (s * k + j)) = some v
  | 0, s, xs, h, _ => by
    cases h
    exact ⟨[], [], rfl, rfl, by simp, by simp [RepLL], fun j v h => by simp at h⟩
  | c + 1, s, xs, h, hw => by
    rw [List.range'_succ] at h
    obtain ⟨y, r, e1, e2, rfl⟩ := mapM_cons_some h
    rw [Option.bind_eq_some_iff] at e1
    obtain ⟨row, c1, c2⟩ := e1
    simp only [List.map_cons, DataW.weightsAll, List.all_append, Bool.and_eq_true] at hw
    obtain ⟨ds, g1, g2⟩ := ih row y.1 y.2 c2 hw.1
    obtain ⟨es, vs, h1, h2, h3, h4, h5⟩ := reads_rows hl ih c (s + 1) r e2 hw.2
    have hrow := World.cells?_some c1
    refine ⟨ds :: es, row ++ vs, by simp [h1], by simp [h2], ?_, ⟨row, vs, rfl, g2, h4⟩, fun j v hj => ?_⟩
    · intro x hx
      rcases List.mem_cons.1 hx with rfl | hx
      · exact g1
      · exact h3 x hx
    · have hrl : row.length = k := by rw [g2.length, g1.length, hl]
      have addadd : ∀ i j, (a.add i).add j = a.add (i + j) := fun i j => by
        unfold Addr.add
        by_cases hi : i = 0 <;> by_cases hj : j = 0 <;> simp [hi, hj, Nat.add_assoc]
      by_cases hjk : j < k
      · rw [List.getElem?_append_left (by omega)] at hj
        have := hrow.2.2 j hjk
        rw [hj, addadd] at this
        exact this
      · rw [List.getElem?_append_right (by omega)] at hj
        have := h5 (j - row.length) v hj
        rw [hrl] at this
        rwa [show (s + 1) * k + (j - k) = s * k + j by rw [Nat.succ_mul]; omega] at this
theorem trod_ty : ∀ (m : Nat) (n : Nat) (t : TypeId) (shs : List Sh), tySh P m t = some shs → Reads enc P F w sp n t shs
  | 0, _, _, _, h => by cases h
  | m + 1, 0, t, shs, _ => fun cs d ps h _ => by simp [DataW.trod] at h
  | m + 1, n + 1, t, shs, h => by
    intro cs d ps ht hw
    rw [tySh] at h
    split at h
    · rename_i hu
      cases h
      unfold DataW.trod at ht; rw [hu] at ht
      split at ht <;> try (simp_all; done)
      rename_i b _
      refine ⟨[.bool b], ⟨_, _, rfl, ⟨b, rfl⟩, rfl⟩, by simp [RepL, RepC]⟩
    · rename_i k hu
      cases h
      unfold DataW.trod at ht; rw [hu] at ht
      split at ht <;> try (simp_all; done)
      rename_i k1 k2 x h1
      simp only [Option.some.injEq, TypeDesc.int.injEq] at h1
      subst h1
      split at ht
      · rename_i hk
        obtain ⟨rfl, hwf⟩ := hk
        exact ⟨[.int _ x], ⟨_, _, rfl, ⟨x, rfl, hwf⟩, rfl⟩, by simp [RepL, RepC]⟩
      · cases ht
    · rename_i hu
      cases h
      unfold DataW.trod at ht; rw [hu] at ht
      split at ht <;> try (simp_all; done)
      rename_i s _
      split at ht
      · rename_i hs
        simp only [Option.some.injEq, Prod.mk.injEq] at ht
        obtain ⟨rfl, rfl⟩ := ht
        simp only [DataW.weights, List.all_cons, List.all_nil, Bool.and_true, decide_eq_true_eq] at hw
        refine ⟨[.str s.data.toList], ⟨_, _, rfl, ⟨_, rfl, ?_⟩, rfl⟩, ?_⟩
        · have := reachBytes_lt; omega
        · obtain ⟨s⟩ := s
          simp [RepL, RepC]
      · cases ht
    · rename_i e hu
      split at h
      case h_2 => cases h
      rename_i l hl
      split at h
      case isFalse => cases h
      rename_i hk
      cases h
      unfold DataW.trod at ht; rw [hu] at ht
      split at ht <;> try (simp_all; done)
      · refine ⟨[.nils], ⟨_, _, rfl, ⟨[], .inr ⟨rfl, rfl⟩, by simp, by simp⟩, rfl⟩, by simp [RepL, RepC]⟩
      · rename_i e' a len cap h1
        simp only [Option.some.injEq, TypeDesc.slice.injEq] at h1
        subst h1
        simp only at ht
        split at ht
        case isFalse => cases ht
        rename_i hb
        rw [Option.bind_eq_some_iff] at ht
        obtain ⟨xs, e1, e2⟩ := ht
        rw [Option.map_eq_some_iff] at e2
        obtain ⟨rest, e3, e4⟩ := e2
        simp only [Prod.mk.injEq] at e4
        obtain ⟨rfl, rfl⟩ := e4
        simp only [DataW.weights, hu, List.all_cons, List.all_append, Bool.and_eq_true, decide_eq_true_eq] at hw
        obtain ⟨w1, w2, w3⟩ := hw
        rw [List.range_eq_range'] at e1
        obtain ⟨es, vs, g1, g2, g3, g4, g5⟩ := reads_rows (F := F) hk.1 (trod_ty m n e l hl) len 0 xs e1 w2
        refine ⟨[.sl es], ⟨_, _, rfl, ⟨es, .inl rfl, ?_, g3⟩, rfl⟩, ?_⟩
        · have h5 := reachBytes_lt
          have h6 : es.length * 1 ≤ (xs.length + rest.length) * P.bytesOf e := Nat.mul_le_mul (by omega) hk.2
          simp only [List.length_map] at w1
          omega
        · simp only [RepL]
          refine ⟨_, _, rfl, ?_, rfl⟩
          simp only [RepC]
          refine ⟨some a, cap, vs, P.cellsOf e, by rw [g1], by omega, g4, fun r hr => by rw [(g3 r hr).length, hk.1], fun _ => ⟨a, rfl, fun j v hj => ?_⟩⟩
          have := g5 j v hj
          simpa using this
    · rename_i fs hu
      split at h
      case h_2 => cases h
      rename_i l hl
      split at h
      case isFalse => cases h
      rename_i hk
      cases h
      unfold DataW.trod at ht; rw [hu] at ht
      split at ht <;> try (simp_all; done)
      rename_i fs' h1
      simp only [Option.some.injEq, TypeDesc.struct.injEq] at h1
      subst h1
      split at ht
      case isFalse => cases ht
      rename_i hc
      rw [Option.map_eq_some_iff] at ht
      obtain ⟨xs, e1, e2⟩ := ht
      simp only [Prod.mk.injEq] at e2
      obtain ⟨rfl, rfl⟩ := e2
      simp only [DataW.weights, hu] at hw
      obtain ⟨ds, g1, g2⟩ := reads_flds (F := F) (n := n) (fun t shs h => trod_ty m n t shs h) fs.toList 0 xs _ e1 hl hw (by omega)
      exact ⟨ds, g1, by simpa using g2⟩
    · cases h
theorem arg_struct {t : TypeId} {fs : Array Field} {m : Nat} {shs : List Sh} {base : Nat} {v : Value} {d : DataW H} {ps : List MemPlace} (hu : P.underlying t = some (.struct fs)) (hsh : tySh P m t = some shs) (hv : Value.okWide P w .any base t v) (h : DataW.Trod enc P w 0 sp true t v d ps) (hw : (d.weights P t).all (· ≤ reachBytes) = true) :
    ∃ ds, HasShL shs ds ∧ RepC F (cellM w) (.agg ds) v := by
  obtain ⟨cs, rfl, _⟩ := okWide_struct hu hv
  obtain ⟨n, hn⟩ := h
  obtain ⟨ds, g1, g2⟩ := trod_ty (F := F) m n t shs hsh _ d ps hn hw
  exact ⟨ds, g1, by simp only [RepC]; exact ⟨cs.toList, by simp, g2⟩⟩
end
theorem rows_map {α : Type} {f : α → List D} {es : List (List D)} (h : ∀ e ∈ es, ∃ x, e = f x) : ∃ xs : List α, es = xs.map f := by
  induction es with
  | nil => exact ⟨[], rfl⟩
  | cons e es ih =>
    obtain ⟨x, rfl⟩ := h e (by simp)
    obtain ⟨xs, rfl⟩ := ih (fun e he => h e (by simp [he]))
    exact ⟨x :: xs, rfl⟩
end Go.Gv
namespace Go.Gv
def tblOk (P : Program) (F : Fid) (prog : Nat → Option NFun) (tbl : List (Nat × Nat)) : Bool := tbl.all fun p => named P p.2 && match prog p.1 with
  | some nf => funOk P F p.2 nf
  | none => true
theorem lookup_in {tbl : List (Nat × Nat)} {g f : Nat} (h : tbl.lookup g = some f) : (g, f) ∈ tbl := by
  induction tbl with
  | nil => cases h
  | cons p r ih =>
    obtain ⟨a, b⟩ := p
    rw [List.lookup_cons] at h
    cases e : g == a with
    | true => rw [e] at h; simp at e h; subst e; subst h; simp
    | false => rw [e] at h; simp [ih h]
theorem seat {P : Program} {tbl : List (Nat × Nat)} {ty : Nat → TypeId} {prog : Nat → Option NFun} (hm : P.follows .mixedOrders = true) (hl : laidOutB P = true) (h : tblOk P ⟨P, fun g => tbl.lookup g, ty⟩ prog tbl = true) :
    CSound P ⟨P, fun g => tbl.lookup g, ty⟩ (runsC P ⟨P, fun g => tbl.lookup g, ty⟩) ∧ Closed prog (runsC P ⟨P, fun g => tbl.lookup g, ty⟩) := by
  have key : ∀ g f, tbl.lookup g = some f → named P f = true ∧ ∀ nf, prog g = some nf → funOk P ⟨P, fun g => tbl.lookup g, ty⟩ f nf = true := fun g f e => by
    have := List.all_eq_true.1 h _ (lookup_in e)
    simp only [Bool.and_eq_true] at this
    refine ⟨this.1, fun nf hnf => ?_⟩
    have := this.2
    rw [hnf] at this
    exact this
  exact runs_closed hm (fun g f e => (key g f e).1) hl rfl (fun g f nf e hp => (key g f e).2 nf hp)
end Go.Gv

namespace Go.Gv
open Go.Proofs
def TryzTbl : List (Nat × Nat) := [(0, 2), (395, 3), (211, 5), (212, 6), (220, 7), (222, 8), (371, 9), (215, 10), (19, 11), (281, 12), (397, 13), (216, 14), (398, 15), (213, 18), (252, 19), (214, 20), (253, 21), (254, 22), (373, 23), (374, 24), (375, 25), (257, 26), (258, 27), (296, 28), (259, 29), (260, 30), (218, 31), (350, 32), (234, 33), (11, 34), (303, 37), (255, 38), (256, 39), (221, 40), (377, 41), (376, 42), (378, 43), (379, 44), (289, 45), (290, 46), (291, 47), (292, 48), (293, 49), (294, 50), (295, 51), (287, 52), (297, 53), (273, 54), (35, 55), (313, 58), (288, 59), (268, 60), (263, 61), (261, 62), (307, 63), (308, 64), (380, 65), (381, 66), (382, 67), (383, 68), (384, 69), (385, 70), (386, 71), (387, 72), (388, 73), (111, 74), (285, 75), (286, 76), (323, 77), (324, 78), (322, 79), (325, 80), (326, 81), (67, 82), (302, 83), (304, 84), (305, 85), (306, 86), (298, 87), (309, 88), (310, 89), (311, 90), (127, 91), (264, 92), (99, 93), (225, 94), (223, 95), (336, 101), (337, 102), (338, 103), (84, 104), (85, 105), (86, 106), (328, 107), (105, 109), (103, 110), (106, 111), (266, 112), (267, 113), (262, 114), (83, 116), (87, 117), (95, 118), (91, 120), (112, 121), (113, 122), (299, 123)]
def TryzTys : List (Nat × Nat) := [(1, 4), (2, 3), (3, 130), (4, 72)]
set_option maxRecDepth 100000 in
theorem Tryz_all : tblOk Tryz.prog ⟨Tryz.prog, fun g => TryzTbl.lookup g, fun t => (TryzTys.lookup t).getD 0⟩ prog TryzTbl = true := by kernel_rfl
end Go.Gv

namespace Go.Gv
open Go.RowKit
theorem runsC_same {P : Program} {F : Fid} {g : Nat} {ds : List D} {d : D} (h : ∀ f, F g = some f → ∀ (M : Mem) (w : World) (vs : List Value), RepL F M ds vs → ∃ v, RepC F M d v ∧ Calls P f vs.toArray w (fun e w' => e = .returned v ∧ w' = w)) : runsC P F g ds d [] := by
  refine ⟨trivial, fun f hf M w vs hh r => ?_⟩
  obtain ⟨v, hv, hc⟩ := h f hf M w vs r
  refine hc.mono ?_
  rintro e w' ⟨rfl, rfl⟩
  exact ⟨v, M, rfl, Bel.refl _, Mem.le_refl _, fun p h1 h2 => absurd h1 h2, hh, hv⟩
end Go.Gv

namespace Go.Proofs
open Go.Shelf
def Tryz.sortL_ren : Go.Shelf.Ren := ⟨fun | 6 => 24 | 15 => 44 | 14 => 43 | 28 => 73 | 29 => 74 | 20 => 65 | 21 => 66 | 22 => 67 | 23 => 68 | 24 => 69 | 25 => 70 | 26 => 71 | 27 => 72 | 46 => 96 | 47 => 97 | 48 => 98 | 49 => 99 | 50 => 100 | 57 => 115 | n => n, fun | 22 => 28 | 24 => 3 | 25 => 51 | 3 => 3 | 39 => 77 | 0 => 0 | 53 => 110 | 55 => 112 | 4 => 4 | 46 => 103 | 45 => 102 | 50 => 107 | 5 => 5 | 9 => 9 | 66 => 143 | 70 => 147 | 76 => 163 | 77 => 86 | n => n, fun | n => n⟩
theorem Tryz.sortL : Go.Proofs.SlLaysF.n6 Tryz.prog Tryz.sortL_ren := {
  mixed := by kernel_rfl
  f6 := ⟨Tryz.f24.name, by decide, Tryz.func24.trans (congrArg some (by kernel_rfl))⟩
  f14 := ⟨Tryz.f43.name, by decide, Tryz.func43.trans (congrArg some (by kernel_rfl))⟩
  f15 := Tryz.func44.trans (congrArg some (by kernel_rfl))
  f20 := ⟨Tryz.f65.name, by decide, Tryz.func65.trans (congrArg some (by kernel_rfl))⟩
  f21 := ⟨Tryz.f66.name, by decide, Tryz.func66.trans (congrArg some (by kernel_rfl))⟩
  f22 := ⟨Tryz.f67.name, by decide, Tryz.func67.trans (congrArg some (by kernel_rfl))⟩
  f23 := ⟨Tryz.f68.name, by decide, Tryz.func68.trans (congrArg some (by kernel_rfl))⟩
  f24 := ⟨Tryz.f69.name, by decide, Tryz.func69.trans (congrArg some (by kernel_rfl))⟩
  f25 := ⟨Tryz.f70.name, by decide, Tryz.func70.trans (congrArg some (by kernel_rfl))⟩
  f26 := ⟨Tryz.f71.name, by decide, Tryz.func71.trans (congrArg some (by kernel_rfl))⟩
  f27 := ⟨Tryz.f72.name, by decide, Tryz.func72.trans (congrArg some (by kernel_rfl))⟩
  f28 := Tryz.func73.trans (congrArg some (by kernel_rfl))
  f29 := Tryz.func74.trans (congrArg some (by kernel_rfl))
  f46 := ⟨Tryz.f96.name, by decide, Tryz.func96.trans (congrArg some (by kernel_rfl))⟩
  f47 := Tryz.func97.trans (congrArg some (by kernel_rfl))
  f48 := Tryz.func98.trans (congrArg some (by kernel_rfl))
  f49 := ⟨Tryz.f99.name, by decide, Tryz.func99.trans (congrArg some (by kernel_rfl))⟩
  f50 := ⟨Tryz.f100.name, by decide, Tryz.func100.trans (congrArg some (by kernel_rfl))⟩
  f57 := ⟨Tryz.f115.name, by decide, Tryz.func115.trans (congrArg some (by kernel_rfl))⟩
  t0 := Tryz.underlying0
  a0 := Tryz.isAgg0
  z0 := Tryz.sizeOf0
  v0 := Tryz.zeroValue0
  t3 := Tryz.underlying3
  a3 := Tryz.isAgg3
  z3 := Tryz.sizeOf3
  v3 := Tryz.zeroValue3
  t4 := Tryz.underlying4
  a4 := Tryz.isAgg4
  z4 := Tryz.sizeOf4
  v4 := Tryz.zeroValue4
  t5 := Tryz.underlying5
  a5 := Tryz.isAgg5
  z5 := Tryz.sizeOf5
  v5 := Tryz.zeroValue5
  t9 := Tryz.underlying9
  a9 := Tryz.isAgg9
  z9 := Tryz.sizeOf9
  v9 := Tryz.zeroValue9
  t22 := Tryz.underlying28
  a22 := Tryz.isAgg28
  z22 := Tryz.sizeOf28
  v22 := Tryz.zeroValue28
  a24 := Tryz.isAgg3
  z24 := Tryz.sizeOf3
  t25 := Tryz.underlying51
  a25 := Tryz.isAgg51
  z25 := Tryz.sizeOf51
  v25 := Tryz.zeroValue51
  t39 := Tryz.underlying77
  a39 := Tryz.isAgg77
  z39 := Tryz.sizeOf77
  v39 := Tryz.zeroValue77
  t45 := Tryz.underlying102
  a45 := Tryz.isAgg102
  z45 := Tryz.sizeOf102
  v45 := Tryz.zeroValue102
  t46 := Tryz.underlying103
  a46 := Tryz.isAgg103
  z46 := Tryz.sizeOf103
  v46 := Tryz.zeroValue103
  t50 := Tryz.underlying107
  a50 := Tryz.isAgg107
  z50 := Tryz.sizeOf107
  v50 := Tryz.zeroValue107
  t53 := Tryz.underlying110
  a53 := Tryz.isAgg110
  z53 := Tryz.sizeOf110
  v53 := Tryz.zeroValue110
  t55 := Tryz.underlying112
  a55 := Tryz.isAgg112
  z55 := Tryz.sizeOf112
  v55 := Tryz.zeroValue112
  t66 := Tryz.underlying143
  a66 := Tryz.isAgg143
  z66 := Tryz.sizeOf143
  v66 := Tryz.zeroValue143
  t70 := Tryz.underlying147
  a70 := Tryz.isAgg147
  z70 := Tryz.sizeOf147
  v70 := Tryz.zeroValue147
  t76 := Tryz.underlying163
  a76 := Tryz.isAgg163
  z76 := Tryz.sizeOf163
  v76 := Tryz.zeroValue163
  t77 := Tryz.underlying86
  a77 := Tryz.isAgg86
  z77 := Tryz.sizeOf86
  v77 := Tryz.zeroValue86 }
def Tryz.lays171_ren : Go.Shelf.Ren := ⟨fun | 171 => 91 | 243 => 108 | 246 => 119 | 283 => 124 | 284 => 125 | 285 => 126 | 286 => 127 | 129 => 74 | 317 => 128 | 318 => 129 | 319 => 130 | 320 => 131 | 337 => 132 | 338 => 133 | n => n, fun | 3 => 3 | 9 => 9 | 2 => 2 | 4 => 4 | 171 => 171 | 0 => 0 | 53 => 112 | 37 => 113 | 5 => 5 | 173 => 173 | 212 => 176 | 51 => 110 | 20 => 20 | 213 => 177 | 46 => 77 | 232 => 178 | 233 => 179 | n => n, fun | 17 => 0 | 18 => 1 | 19 => 2 | n => n⟩
theorem Tryz.lays171 : Go.Proofs.Lays.n171 Tryz.prog Tryz.lays171_ren := {
  mixed := by kernel_rfl
  f129 := Tryz.func74.trans (congrArg some (by kernel_rfl))
  f171 := Tryz.func91.trans (congrArg some (by kernel_rfl))
  f243 := Tryz.func108.trans (congrArg some (by kernel_rfl))
  f246 := Tryz.func119.trans (congrArg some (by kernel_rfl))
  f283 := Tryz.func124.trans (congrArg some (by kernel_rfl))
  f284 := Tryz.func125.trans (congrArg some (by kernel_rfl))
  f285 := Tryz.func126.trans (congrArg some (by kernel_rfl))
  f286 := Tryz.func127.trans (congrArg some (by kernel_rfl))
  f317 := Tryz.func128.trans (congrArg some (by kernel_rfl))
  f318 := Tryz.func129.trans (congrArg some (by kernel_rfl))
  f319 := Tryz.func130.trans (congrArg some (by kernel_rfl))
  f320 := Tryz.func131.trans (congrArg some (by kernel_rfl))
  f337 := Tryz.func132.trans (congrArg some (by kernel_rfl))
  f338 := Tryz.func133.trans (congrArg some (by kernel_rfl))
  t0 := Tryz.underlying0
  a0 := Tryz.isAgg0
  z0 := Tryz.sizeOf0
  v0 := Tryz.zeroValue0
  t2 := Tryz.underlying2
  a2 := Tryz.isAgg2
  z2 := Tryz.sizeOf2
  v2 := Tryz.zeroValue2
  t3 := Tryz.underlying3
  a3 := Tryz.isAgg3
  z3 := Tryz.sizeOf3
  v3 := Tryz.zeroValue3
  t4 := Tryz.underlying4
  a4 := Tryz.isAgg4
  z4 := Tryz.sizeOf4
  v4 := Tryz.zeroValue4
  t5 := Tryz.underlying5
  a5 := Tryz.isAgg5
  z5 := Tryz.sizeOf5
  v5 := Tryz.zeroValue5
  t9 := Tryz.underlying9
  a9 := Tryz.isAgg9
  z9 := Tryz.sizeOf9
  v9 := Tryz.zeroValue9
  t20 := Tryz.underlying20
  a20 := Tryz.isAgg20
  z20 := Tryz.sizeOf20
  v20 := Tryz.zeroValue20
  t37 := Tryz.underlying113
  a37 := Tryz.isAgg113
  z37 := Tryz.sizeOf113
  v37 := Tryz.zeroValue113
  t46 := Tryz.underlying77
  a46 := Tryz.isAgg77
  z46 := Tryz.sizeOf77
  v46 := Tryz.zeroValue77
  t51 := Tryz.underlying110
  a51 := Tryz.isAgg110
  z51 := Tryz.sizeOf110
  v51 := Tryz.zeroValue110
  t53 := Tryz.underlying112
  a53 := Tryz.isAgg112
  z53 := Tryz.sizeOf112
  v53 := Tryz.zeroValue112
  t171 := Tryz.underlying171
  a171 := Tryz.isAgg171
  z171 := Tryz.sizeOf171
  v171 := Tryz.zeroValue171
  t173 := Tryz.underlying173
  a173 := Tryz.isAgg173
  z173 := Tryz.sizeOf173
  v173 := Tryz.zeroValue173
  t212 := Tryz.underlying176
  a212 := Tryz.isAgg176
  z212 := Tryz.sizeOf176
  v212 := Tryz.zeroValue176
  t213 := Tryz.underlying177
  a213 := Tryz.isAgg177
  z213 := Tryz.sizeOf177
  t232 := Tryz.underlying178
  a232 := Tryz.isAgg178
  z232 := Tryz.sizeOf178
  v232 := Tryz.zeroValue178
  t233 := Tryz.underlying179
  a233 := Tryz.isAgg179
  z233 := Tryz.sizeOf179
  v233 := Tryz.zeroValue179
  g17 := by kernel_rfl
  g18 := by kernel_rfl
  g19 := by kernel_rfl }
open Go.RowKit Go.Sort Go.Lib in
theorem Tryz.strconv_Itoa_small (i : Nat) (hi : i < 100) (w : World) :
    Calls Tryz.prog 91 #[.int .i64 i] w fun e w' => e = .returned (.string ⟨(Lib.decDigits i).toArray⟩) ∧ w' = w := Any.strconv_Itoa_small Tryz.lays171 i hi w
end Go.Proofs

namespace Go.Gv
open Go.Sort
section
variable {P : Program} {F : Fid} {α : Type} [Inhabited α]
def rowsOf (encD : α → D) (d : Array α) : List (List D) := d.toList.map fun x => [encD x]
theorem runsS_of_sort {f : FuncId} (enc : α → Value) (encD : α → D) (hflat : ∀ M x u, RepC F M (encD x) u → u = enc x) (hrep : ∀ M x, RepC F M (encD x) (enc x)) (d d' : Array α) (hsz : d'.size = d.size) (ds : List D)
    (hnone : d.size = 0 → ∀ (M : Mem) (w : World) (vs : List Value) (A : Option Addr), (∀ p v, M p = some v → w.cell? p = some v) → RepL F M ds vs → Calls P f (.slice A 0 0 :: vs).toArray w fun e w' => e = .returned (.tuple #[]) ∧ ∃ n os, w' = grow (Sort.ahead w n) os)
    (hrun : ∀ (M : Mem) (w : World) (vs : List Value) (blk off cap : Nat), (∀ p v, M p = some v → w.cell? p = some v) → (∀ p : Addr, p.block = blk → M p = none) → RepL F M ds vs → Holds enc w blk off d → blk < w.heap.size →
      Calls P f (.slice (some ⟨blk, off, none⟩) d.size cap :: vs).toArray w fun e w' => e = .returned (.tuple #[]) ∧ ∃ n os, w' = grow (putRow enc (Sort.ahead w n) blk off d') os) : RunsS P F f 1 (rowsOf encD d) ds (rowsOf encD d') := by
  intro M w vs hh r
  have hl : (rowsOf encD d).length = d.size := by simp [rowsOf]
  refine ⟨fun e A => ?_, fun b o T us cap hM hb hcell hcap hle hu hc => ?_⟩
  · have h0 : d.size = 0 := by rw [← hl, e]; rfl
    refine (hnone h0 M w vs A hh r).mono ?_
    rintro e0 w' ⟨rfl, n, os, rfl⟩
    exact ⟨rfl, rfl, rfl, rfl, by simp [grow, Sort.ahead], fun k hk => by simp only [grow, Sort.ahead]; rw [Array.getElem?_append_left hk], Nat.le_add_right _ _⟩
  · rw [hl] at hcap ⊢
    have hH : Holds enc w b o d := fun j hj => by
      obtain ⟨u, k1, k2⟩ := hc j [encD d[j]] 0 (encD d[j]) (by simp [rowsOf, hj]) rfl
      have := hflat _ _ _ k2
      subst this
      have e1 : d[j]! = d[j] := getElem!_pos d j hj
      rw [e1]
      have k3 : us[o + j]? = some (enc d[j]) := by simpa using k1
      constructor
      · simp [World.cell?, hcell, k3]
      · simp [World.frozen?, hcell]
    refine (hrun M w vs b o cap hh hM r hH hb).mono ?_
    rintro e0 w' ⟨rfl, n, os, rfl⟩
    have hput : (grow (putRow enc (Sort.ahead w n) b o d') os).heap[b]? = some (.cells (putCells enc o d' us.toArray) T (0, 0)) := by
      simp only [grow, putRow, mapBlock, Sort.ahead]
      rw [Array.getElem?_append_left (by simpa using hb), Array.getElem?_modify, if_pos rfl, hcell]
      rfl
    refine ⟨rfl, (putCells enc o d' us.toArray).toList, by rw [Array.toArray_toList]; exact hput, by simp [putCells], fun i r off x hi hr => ?_, ⟨rfl, rfl, rfl, by simp [grow, putRow, mapBlock, Sort.ahead], fun k hk hne => ?_, Nat.le_add_right _ _⟩⟩
    · simp only [rowsOf, List.getElem?_map, Option.map_eq_some_iff] at hi
      obtain ⟨y, h1, rfl⟩ := hi
      have ho : off = 0 := by
        have := (List.getElem?_eq_some_iff.1 hr).1
        simpa using this
      subst ho
      simp only [List.getElem?_cons_zero, Option.some.injEq] at hr
      subst hr
      have hi2 : i < d'.size := by have := (List.getElem?_eq_some_iff.1 h1).1; simpa using this
      have hy : d'[i]! = y := by
        rw [getElem!_pos d' i hi2]
        have := (List.getElem?_eq_some_iff.1 h1).2
        simpa using this
      refine ⟨enc y, ?_, hrep _ _⟩
      have hlt : o + i < us.length := by
        have : o + cap * 1 ≤ us.length := hle
        omega
      rw [Nat.mul_one, Nat.add_zero, Array.getElem?_toList]
      simp only [putCells, Array.getElem?_mapIdx, List.getElem?_toArray]
      rw [List.getElem?_eq_getElem hlt]
      simp only [Option.map_some]
      rw [if_pos ⟨by omega, by omega⟩, show o + i - o = i by omega, hy]
    · simp only [grow, putRow, mapBlock, Sort.ahead]
      rw [Array.getElem?_append_left (by simpa using hk), Array.getElem?_modify, if_neg (Ne.symm hne)]
end
end Go.Gv

namespace Go.Gv
open Go.Sort Go.Proofs Go.Shelf
section
variable {P : Program} {F : Fid} {α : Type} [Inhabited α]
end
end Go.Gv

set_option linter.unusedSimpArgs false
namespace Go.Gv
open Go.Sort Go.Proofs Go.Shelf
section
variable {P : Program} {F : Fid} {α : Type} [Inhabited α]
end
end Go.Gv

namespace Go.Gv
structure Tag {α : Type _} (x : α) : Type where
@[simp] theorem isV_any : isV (.any) = true := _root_.id rfl
@[simp] theorem isV_int {k n} : isV (.int k n) = true := _root_.id rfl
@[simp] theorem isV_bool {b} : isV (.bool b) = true := _root_.id rfl
@[simp] theorem isV_str {s} : isV (.str s) = true := _root_.id rfl
@[simp] theorem isV_nilp : isV (.nilp) = true := _root_.id rfl
@[simp] theorem isV_nils : isV (.nils) = true := _root_.id rfl
@[simp] theorem isV_agg {ds} : isV (.agg ds) = true := _root_.id rfl
@[simp] theorem isV_tup {ds} : isV (.tup ds) = true := _root_.id rfl
@[simp] theorem isV_sl {es} : isV (.sl es) = true := _root_.id rfl
@[simp] theorem isV_ptr {ds} : isV (.ptr ds) = true := _root_.id rfl
@[simp] theorem isV_fn {g ds} : isV (.fn g ds) = true := _root_.id rfl
@[simp] theorem isV_own {sz es} : isV (.own sz es) = false := _root_.id rfl
@[simp] theorem isV_blk {sz es} : isV (.blk sz es) = false := _root_.id rfl
@[simp] theorem isV_mp {kt et ks vs} : isV (.mp kt et ks vs) = false := _root_.id rfl
@[simp] theorem isV_mrf {b} : isV (.mrf b) = false := _root_.id rfl
@[simp] theorem isV_ref {p k n} : isV (.ref p k n) = false := _root_.id rfl
@[simp] theorem isV_adr {p i off} : isV (.adr p i off) = false := _root_.id rfl
@[simp] theorem isV_agx {ds} : isV (.agx ds) = false := _root_.id rfl
@[simp] theorem isV_tpx {ds} : isV (.tpx ds) = false := _root_.id rfl
@[simp] theorem isV_ptx {ds} : isV (.ptx ds) = false := _root_.id rfl
@[simp] theorem isV_rfx {n sz ds} : isV (.rfx n sz ds) = false := _root_.id rfl
@[simp] theorem isV_fnx {g ds} : isV (.fnx g ds) = false := _root_.id rfl
@[simp] theorem isK_any : isK (.any) = false := _root_.id rfl
@[simp] theorem isK_int {k n} : isK (.int k n) = true := _root_.id rfl
@[simp] theorem isK_bool {b} : isK (.bool b) = true := _root_.id rfl
@[simp] theorem isK_str {s} : isK (.str s) = true := _root_.id rfl
@[simp] theorem isK_nilp : isK (.nilp) = true := _root_.id rfl
@[simp] theorem isK_nils : isK (.nils) = true := _root_.id rfl
@[simp] theorem isK_agg {ds} : isK (.agg ds) = true := _root_.id rfl
@[simp] theorem isK_tup {ds} : isK (.tup ds) = true := _root_.id rfl
@[simp] theorem isK_sl {es} : isK (.sl es) = true := _root_.id rfl
@[simp] theorem isK_ptr {ds} : isK (.ptr ds) = true := _root_.id rfl
@[simp] theorem isK_fn {g ds} : isK (.fn g ds) = true := _root_.id rfl
@[simp] theorem isK_own {sz es} : isK (.own sz es) = false := _root_.id rfl
@[simp] theorem isK_blk {sz es} : isK (.blk sz es) = false := _root_.id rfl
@[simp] theorem isK_mp {kt et ks vs} : isK (.mp kt et ks vs) = false := _root_.id rfl
@[simp] theorem isK_mrf {b} : isK (.mrf b) = false := _root_.id rfl
@[simp] theorem isK_ref {p k n} : isK (.ref p k n) = false := _root_.id rfl
@[simp] theorem isK_adr {p i off} : isK (.adr p i off) = false := _root_.id rfl
@[simp] theorem isK_agx {ds} : isK (.agx ds) = false := _root_.id rfl
@[simp] theorem isK_tpx {ds} : isK (.tpx ds) = false := _root_.id rfl
@[simp] theorem isK_ptx {ds} : isK (.ptx ds) = false := _root_.id rfl
@[simp] theorem isK_rfx {n sz ds} : isK (.rfx n sz ds) = false := _root_.id rfl
@[simp] theorem isK_fnx {g ds} : isK (.fnx g ds) = false := _root_.id rfl
@[simp] theorem isP_any : isP (.any) = true := _root_.id rfl
@[simp] theorem isP_int {k n} : isP (.int k n) = true := _root_.id rfl
@[simp] theorem isP_bool {b} : isP (.bool b) = true := _root_.id rfl
@[simp] theorem isP_str {s} : isP (.str s) = true := _root_.id rfl
@[simp] theorem isP_nilp : isP (.nilp) = true := _root_.id rfl
@[simp] theorem isP_nils : isP (.nils) = true := _root_.id rfl
@[simp] theorem isP_agg {ds} : isP (.agg ds) = true := _root_.id rfl
@[simp] theorem isP_tup {ds} : isP (.tup ds) = true := _root_.id rfl
@[simp] theorem isP_sl {es} : isP (.sl es) = true := _root_.id rfl
@[simp] theorem isP_ptr {ds} : isP (.ptr ds) = true := _root_.id rfl
@[simp] theorem isP_fn {g ds} : isP (.fn g ds) = true := _root_.id rfl
@[simp] theorem isP_own {sz es} : isP (.own sz es) = false := _root_.id rfl
@[simp] theorem isP_blk {sz es} : isP (.blk sz es) = false := _root_.id rfl
@[simp] theorem isP_mp {kt et ks vs} : isP (.mp kt et ks vs) = false := _root_.id rfl
@[simp] theorem isP_mrf {b} : isP (.mrf b) = true := _root_.id rfl
@[simp] theorem isP_ref {p k n} : isP (.ref p k n) = true := _root_.id rfl
@[simp] theorem isP_adr {p i off} : isP (.adr p i off) = true := _root_.id rfl
@[simp] theorem isP_agx {ds} : isP (.agx ds) = false := _root_.id rfl
@[simp] theorem isP_tpx {ds} : isP (.tpx ds) = false := _root_.id rfl
@[simp] theorem isP_ptx {ds} : isP (.ptx ds) = false := _root_.id rfl
@[simp] theorem isP_rfx {n sz ds} : isP (.rfx n sz ds) = false := _root_.id rfl
@[simp] theorem isP_fnx {g ds} : isP (.fnx g ds) = false := _root_.id rfl
@[simp] theorem isS_any : isS (.any) = true := _root_.id rfl
@[simp] theorem isV_bb : isV (.bb) = true := _root_.id rfl
@[simp] theorem isS_bb : isS (.bb) = true := _root_.id rfl
@[simp] theorem isP_bb : isP (.bb) = true := _root_.id rfl
@[simp] theorem isB_bb : isB (.bb) = false := _root_.id rfl
@[simp] theorem isAny_bb : isAny (.bb) = false := _root_.id rfl
@[simp] theorem mroots_bb : mroots (.bb) = [] := _root_.id rfl
@[simp] theorem mroots1_bb : mroots1 (.bb) = [] := _root_.id rfl
@[simp] theorem isS_int {k n} : isS (.int k n) = true := _root_.id rfl
@[simp] theorem isS_bool {b} : isS (.bool b) = true := _root_.id rfl
@[simp] theorem isS_str {s} : isS (.str s) = true := _root_.id rfl
@[simp] theorem isS_nilp : isS (.nilp) = true := _root_.id rfl
@[simp] theorem isS_nils : isS (.nils) = true := _root_.id rfl
@[simp] theorem isS_agg {ds} : isS (.agg ds) = true := _root_.id rfl
@[simp] theorem isS_tup {ds} : isS (.tup ds) = true := _root_.id rfl
@[simp] theorem isS_sl {es} : isS (.sl es) = true := _root_.id rfl
@[simp] theorem isS_ptr {ds} : isS (.ptr ds) = true := _root_.id rfl
@[simp] theorem isS_fn {g ds} : isS (.fn g ds) = true := _root_.id rfl
@[simp] theorem isS_own {sz es} : isS (.own sz es) = false := _root_.id rfl
@[simp] theorem isS_blk {sz es} : isS (.blk sz es) = false := _root_.id rfl
@[simp] theorem isS_mp {kt et ks vs} : isS (.mp kt et ks vs) = false := _root_.id rfl
@[simp] theorem isS_mrf {b} : isS (.mrf b) = true := _root_.id rfl
@[simp] theorem isS_ref {p k n} : isS (.ref p k n) = true := _root_.id rfl
@[simp] theorem isS_adr {p i off} : isS (.adr p i off) = true := _root_.id rfl
@[simp] theorem isS_agx {ds} : isS (.agx ds) = ds.all isP := _root_.id rfl
@[simp] theorem isS_tpx {ds} : isS (.tpx ds) = ds.all isP := _root_.id rfl
@[simp] theorem isS_ptx {ds} : isS (.ptx ds) = ds.all isP := _root_.id rfl
@[simp] theorem isS_rfx {n sz ds} : isS (.rfx n sz ds) = ds.all isP := _root_.id rfl
@[simp] theorem isS_fnx {g ds} : isS (.fnx g ds) = ds.all isP := _root_.id rfl
@[simp] theorem isC1_any : isC1 (.any) = false := _root_.id rfl
@[simp] theorem isC1_int {k n} : isC1 (.int k n) = true := _root_.id rfl
@[simp] theorem isC1_bool {b} : isC1 (.bool b) = true := _root_.id rfl
@[simp] theorem isC1_str {s} : isC1 (.str s) = true := _root_.id rfl
@[simp] theorem isC1_nilp : isC1 (.nilp) = true := _root_.id rfl
@[simp] theorem isC1_nils : isC1 (.nils) = true := _root_.id rfl
@[simp] theorem isC1_agg {ds} : isC1 (.agg ds) = false := _root_.id rfl
@[simp] theorem isC1_tup {ds} : isC1 (.tup ds) = false := _root_.id rfl
@[simp] theorem isC1_sl {es} : isC1 (.sl es) = true := _root_.id rfl
@[simp] theorem isC1_ptr {ds} : isC1 (.ptr ds) = true := _root_.id rfl
@[simp] theorem isC1_fn {g ds} : isC1 (.fn g ds) = true := _root_.id rfl
@[simp] theorem isC1_own {sz es} : isC1 (.own sz es) = false := _root_.id rfl
@[simp] theorem isC1_blk {sz es} : isC1 (.blk sz es) = false := _root_.id rfl
@[simp] theorem isC1_mp {kt et ks vs} : isC1 (.mp kt et ks vs) = false := _root_.id rfl
@[simp] theorem isC1_mrf {b} : isC1 (.mrf b) = false := _root_.id rfl
@[simp] theorem isC1_ref {p k n} : isC1 (.ref p k n) = false := _root_.id rfl
@[simp] theorem isC1_adr {p i off} : isC1 (.adr p i off) = false := _root_.id rfl
@[simp] theorem isC1_agx {ds} : isC1 (.agx ds) = false := _root_.id rfl
@[simp] theorem isC1_tpx {ds} : isC1 (.tpx ds) = false := _root_.id rfl
@[simp] theorem isC1_ptx {ds} : isC1 (.ptx ds) = false := _root_.id rfl
@[simp] theorem isC1_rfx {n sz ds} : isC1 (.rfx n sz ds) = false := _root_.id rfl
@[simp] theorem isC1_fnx {g ds} : isC1 (.fnx g ds) = false := _root_.id rfl
@[simp] theorem isO_any : isO (.any) = false := _root_.id rfl
@[simp] theorem isO_int {k n} : isO (.int k n) = false := _root_.id rfl
@[simp] theorem isO_bool {b} : isO (.bool b) = false := _root_.id rfl
@[simp] theorem isO_str {s} : isO (.str s) = false := _root_.id rfl
@[simp] theorem isO_nilp : isO (.nilp) = false := _root_.id rfl
@[simp] theorem isO_nils : isO (.nils) = false := _root_.id rfl
@[simp] theorem isO_agg {ds} : isO (.agg ds) = false := _root_.id rfl
@[simp] theorem isO_tup {ds} : isO (.tup ds) = false := _root_.id rfl
@[simp] theorem isO_sl {es} : isO (.sl es) = false := _root_.id rfl
@[simp] theorem isO_ptr {ds} : isO (.ptr ds) = false := _root_.id rfl
@[simp] theorem isO_fn {g ds} : isO (.fn g ds) = false := _root_.id rfl
@[simp] theorem isO_own {sz es} : isO (.own sz es) = true := _root_.id rfl
@[simp] theorem isO_blk {sz es} : isO (.blk sz es) = false := _root_.id rfl
@[simp] theorem isO_mp {kt et ks vs} : isO (.mp kt et ks vs) = false := _root_.id rfl
@[simp] theorem isO_mrf {b} : isO (.mrf b) = false := _root_.id rfl
@[simp] theorem isO_ref {p k n} : isO (.ref p k n) = false := _root_.id rfl
@[simp] theorem isO_adr {p i off} : isO (.adr p i off) = false := _root_.id rfl
@[simp] theorem isO_agx {ds} : isO (.agx ds) = false := _root_.id rfl
@[simp] theorem isO_tpx {ds} : isO (.tpx ds) = false := _root_.id rfl
@[simp] theorem isO_ptx {ds} : isO (.ptx ds) = false := _root_.id rfl
@[simp] theorem isO_rfx {n sz ds} : isO (.rfx n sz ds) = false := _root_.id rfl
@[simp] theorem isO_fnx {g ds} : isO (.fnx g ds) = false := _root_.id rfl
@[simp] theorem isF1_any : isF1 (.any) = true := _root_.id rfl
@[simp] theorem isF1_int {k n} : isF1 (.int k n) = true := _root_.id rfl
@[simp] theorem isF1_bool {b} : isF1 (.bool b) = true := _root_.id rfl
@[simp] theorem isF1_str {s} : isF1 (.str s) = true := _root_.id rfl
@[simp] theorem isF1_nilp : isF1 (.nilp) = true := _root_.id rfl
@[simp] theorem isF1_nils : isF1 (.nils) = true := _root_.id rfl
@[simp] theorem isF1_agg {ds} : isF1 (.agg ds) = false := _root_.id rfl
@[simp] theorem isF1_tup {ds} : isF1 (.tup ds) = false := _root_.id rfl
@[simp] theorem isF1_sl {es} : isF1 (.sl es) = false := _root_.id rfl
@[simp] theorem isF1_ptr {ds} : isF1 (.ptr ds) = false := _root_.id rfl
@[simp] theorem isF1_fn {g ds} : isF1 (.fn g ds) = false := _root_.id rfl
@[simp] theorem isF1_own {sz es} : isF1 (.own sz es) = false := _root_.id rfl
@[simp] theorem isF1_blk {sz es} : isF1 (.blk sz es) = false := _root_.id rfl
@[simp] theorem isF1_mp {kt et ks vs} : isF1 (.mp kt et ks vs) = false := _root_.id rfl
@[simp] theorem isF1_mrf {b} : isF1 (.mrf b) = false := _root_.id rfl
@[simp] theorem isF1_ref {p k n} : isF1 (.ref p k n) = false := _root_.id rfl
@[simp] theorem isF1_adr {p i off} : isF1 (.adr p i off) = false := _root_.id rfl
@[simp] theorem isF1_agx {ds} : isF1 (.agx ds) = false := _root_.id rfl
@[simp] theorem isF1_tpx {ds} : isF1 (.tpx ds) = false := _root_.id rfl
@[simp] theorem isF1_ptx {ds} : isF1 (.ptx ds) = false := _root_.id rfl
@[simp] theorem isF1_rfx {n sz ds} : isF1 (.rfx n sz ds) = false := _root_.id rfl
@[simp] theorem isF1_fnx {g ds} : isF1 (.fnx g ds) = false := _root_.id rfl
@[simp] theorem isF2_any : isF2 (.any) = true := _root_.id rfl
@[simp] theorem isF2_int {k n} : isF2 (.int k n) = true := _root_.id rfl
@[simp] theorem isF2_bool {b} : isF2 (.bool b) = true := _root_.id rfl
@[simp] theorem isF2_str {s} : isF2 (.str s) = true := _root_.id rfl
@[simp] theorem isF2_nilp : isF2 (.nilp) = true := _root_.id rfl
@[simp] theorem isF2_nils : isF2 (.nils) = true := _root_.id rfl
@[simp] theorem isF2_agg {ds} : isF2 (.agg ds) = ds.all isF1 := _root_.id rfl
@[simp] theorem isF2_tup {ds} : isF2 (.tup ds) = false := _root_.id rfl
@[simp] theorem isF2_sl {es} : isF2 (.sl es) = false := _root_.id rfl
@[simp] theorem isF2_ptr {ds} : isF2 (.ptr ds) = false := _root_.id rfl
@[simp] theorem isF2_fn {g ds} : isF2 (.fn g ds) = false := _root_.id rfl
@[simp] theorem isF2_own {sz es} : isF2 (.own sz es) = false := _root_.id rfl
@[simp] theorem isF2_blk {sz es} : isF2 (.blk sz es) = false := _root_.id rfl
@[simp] theorem isF2_mp {kt et ks vs} : isF2 (.mp kt et ks vs) = false := _root_.id rfl
@[simp] theorem isF2_mrf {b} : isF2 (.mrf b) = false := _root_.id rfl
@[simp] theorem isF2_ref {p k n} : isF2 (.ref p k n) = false := _root_.id rfl
@[simp] theorem isF2_adr {p i off} : isF2 (.adr p i off) = false := _root_.id rfl
@[simp] theorem isF2_agx {ds} : isF2 (.agx ds) = false := _root_.id rfl
@[simp] theorem isF2_tpx {ds} : isF2 (.tpx ds) = false := _root_.id rfl
@[simp] theorem isF2_ptx {ds} : isF2 (.ptx ds) = false := _root_.id rfl
@[simp] theorem isF2_rfx {n sz ds} : isF2 (.rfx n sz ds) = false := _root_.id rfl
@[simp] theorem isF2_fnx {g ds} : isF2 (.fnx g ds) = false := _root_.id rfl
@[simp] theorem isF_any : isF (.any) = true := _root_.id rfl
@[simp] theorem isF_int {k n} : isF (.int k n) = true := _root_.id rfl
@[simp] theorem isF_bool {b} : isF (.bool b) = true := _root_.id rfl
@[simp] theorem isF_str {s} : isF (.str s) = true := _root_.id rfl
@[simp] theorem isF_nilp : isF (.nilp) = true := _root_.id rfl
@[simp] theorem isF_nils : isF (.nils) = true := _root_.id rfl
@[simp] theorem isF_agg {ds} : isF (.agg ds) = ds.all isF1 := _root_.id rfl
@[simp] theorem isF_tup {ds} : isF (.tup ds) = ds.all isF2 := _root_.id rfl
@[simp] theorem isF_sl {es} : isF (.sl es) = false := _root_.id rfl
@[simp] theorem isF_ptr {ds} : isF (.ptr ds) = false := _root_.id rfl
@[simp] theorem isF_fn {g ds} : isF (.fn g ds) = false := _root_.id rfl
@[simp] theorem isF_own {sz es} : isF (.own sz es) = false := _root_.id rfl
@[simp] theorem isF_blk {sz es} : isF (.blk sz es) = false := _root_.id rfl
@[simp] theorem isF_mp {kt et ks vs} : isF (.mp kt et ks vs) = false := _root_.id rfl
@[simp] theorem isF_mrf {b} : isF (.mrf b) = false := _root_.id rfl
@[simp] theorem isF_ref {p k n} : isF (.ref p k n) = false := _root_.id rfl
@[simp] theorem isF_adr {p i off} : isF (.adr p i off) = false := _root_.id rfl
@[simp] theorem isF_agx {ds} : isF (.agx ds) = false := _root_.id rfl
@[simp] theorem isF_tpx {ds} : isF (.tpx ds) = false := _root_.id rfl
@[simp] theorem isF_ptx {ds} : isF (.ptx ds) = false := _root_.id rfl
@[simp] theorem isF_rfx {n sz ds} : isF (.rfx n sz ds) = false := _root_.id rfl
@[simp] theorem isF_fnx {g ds} : isF (.fnx g ds) = false := _root_.id rfl
@[simp] theorem isB_any : isB (.any) = false := _root_.id rfl
@[simp] theorem isB_int {k n} : isB (.int k n) = false := _root_.id rfl
@[simp] theorem isB_bool {b} : isB (.bool b) = false := _root_.id rfl
@[simp] theorem isB_str {s} : isB (.str s) = false := _root_.id rfl
@[simp] theorem isB_nilp : isB (.nilp) = false := _root_.id rfl
@[simp] theorem isB_nils : isB (.nils) = false := _root_.id rfl
@[simp] theorem isB_agg {ds} : isB (.agg ds) = false := _root_.id rfl
@[simp] theorem isB_tup {ds} : isB (.tup ds) = false := _root_.id rfl
@[simp] theorem isB_sl {es} : isB (.sl es) = false := _root_.id rfl
@[simp] theorem isB_ptr {ds} : isB (.ptr ds) = false := _root_.id rfl
@[simp] theorem isB_fn {g ds} : isB (.fn g ds) = false := _root_.id rfl
@[simp] theorem isB_own {sz es} : isB (.own sz es) = false := _root_.id rfl
@[simp] theorem isB_blk {sz es} : isB (.blk sz es) = true := _root_.id rfl
@[simp] theorem isB_mp {kt et ks vs} : isB (.mp kt et ks vs) = true := _root_.id rfl
@[simp] theorem isB_mrf {b} : isB (.mrf b) = false := _root_.id rfl
@[simp] theorem isB_ref {p k n} : isB (.ref p k n) = false := _root_.id rfl
@[simp] theorem isB_adr {p i off} : isB (.adr p i off) = false := _root_.id rfl
@[simp] theorem isB_agx {ds} : isB (.agx ds) = false := _root_.id rfl
@[simp] theorem isB_tpx {ds} : isB (.tpx ds) = false := _root_.id rfl
@[simp] theorem isB_ptx {ds} : isB (.ptx ds) = false := _root_.id rfl
@[simp] theorem isB_rfx {n sz ds} : isB (.rfx n sz ds) = false := _root_.id rfl
@[simp] theorem isB_fnx {g ds} : isB (.fnx g ds) = false := _root_.id rfl
@[simp] theorem isAny_any : isAny (.any) = true := _root_.id rfl
@[simp] theorem isAny_int {k n} : isAny (.int k n) = false := _root_.id rfl
@[simp] theorem isAny_bool {b} : isAny (.bool b) = false := _root_.id rfl
@[simp] theorem isAny_str {s} : isAny (.str s) = false := _root_.id rfl
@[simp] theorem isAny_nilp : isAny (.nilp) = false := _root_.id rfl
@[simp] theorem isAny_nils : isAny (.nils) = false := _root_.id rfl
@[simp] theorem isAny_agg {ds} : isAny (.agg ds) = false := _root_.id rfl
@[simp] theorem isAny_tup {ds} : isAny (.tup ds) = false := _root_.id rfl
@[simp] theorem isAny_sl {es} : isAny (.sl es) = false := _root_.id rfl
@[simp] theorem isAny_ptr {ds} : isAny (.ptr ds) = false := _root_.id rfl
@[simp] theorem isAny_fn {g ds} : isAny (.fn g ds) = false := _root_.id rfl
@[simp] theorem isAny_own {sz es} : isAny (.own sz es) = false := _root_.id rfl
@[simp] theorem isAny_blk {sz es} : isAny (.blk sz es) = false := _root_.id rfl
@[simp] theorem isAny_mp {kt et ks vs} : isAny (.mp kt et ks vs) = false := _root_.id rfl
@[simp] theorem isAny_mrf {b} : isAny (.mrf b) = false := _root_.id rfl
@[simp] theorem isAny_ref {p k n} : isAny (.ref p k n) = false := _root_.id rfl
@[simp] theorem isAny_adr {p i off} : isAny (.adr p i off) = false := _root_.id rfl
@[simp] theorem isAny_agx {ds} : isAny (.agx ds) = false := _root_.id rfl
@[simp] theorem isAny_tpx {ds} : isAny (.tpx ds) = false := _root_.id rfl
@[simp] theorem isAny_ptx {ds} : isAny (.ptx ds) = false := _root_.id rfl
@[simp] theorem isAny_rfx {n sz ds} : isAny (.rfx n sz ds) = false := _root_.id rfl
@[simp] theorem isAny_fnx {g ds} : isAny (.fnx g ds) = false := _root_.id rfl
@[simp] theorem cellsOf_any : cellsOf (.any) = [.any] := _root_.id rfl
@[simp] theorem cellsOf_int {k n} : cellsOf (.int k n) = [.int k n] := _root_.id rfl
@[simp] theorem cellsOf_bool {b} : cellsOf (.bool b) = [.bool b] := _root_.id rfl
@[simp] theorem cellsOf_str {s} : cellsOf (.str s) = [.str s] := _root_.id rfl
@[simp] theorem cellsOf_nilp : cellsOf (.nilp) = [.nilp] := _root_.id rfl
@[simp] theorem cellsOf_nils : cellsOf (.nils) = [.nils] := _root_.id rfl
@[simp] theorem cellsOf_agg {ds} : cellsOf (.agg ds) = ds := _root_.id rfl
@[simp] theorem cellsOf_tup {ds} : cellsOf (.tup ds) = [.tup ds] := _root_.id rfl
@[simp] theorem cellsOf_sl {es} : cellsOf (.sl es) = [.sl es] := _root_.id rfl
@[simp] theorem cellsOf_ptr {ds} : cellsOf (.ptr ds) = [.ptr ds] := _root_.id rfl
@[simp] theorem cellsOf_fn {g ds} : cellsOf (.fn g ds) = [.fn g ds] := _root_.id rfl
@[simp] theorem cellsOf_own {sz es} : cellsOf (.own sz es) = [.own sz es] := _root_.id rfl
@[simp] theorem cellsOf_blk {sz es} : cellsOf (.blk sz es) = [.blk sz es] := _root_.id rfl
@[simp] theorem cellsOf_mp {kt et ks vs} : cellsOf (.mp kt et ks vs) = [.mp kt et ks vs] := _root_.id rfl
@[simp] theorem cellsOf_mrf {b} : cellsOf (.mrf b) = [.mrf b] := _root_.id rfl
@[simp] theorem cellsOf_ref {p k n} : cellsOf (.ref p k n) = [.ref p k n] := _root_.id rfl
@[simp] theorem cellsOf_adr {p i off} : cellsOf (.adr p i off) = [.adr p i off] := _root_.id rfl
@[simp] theorem cellsOf_agx {ds} : cellsOf (.agx ds) = [.agx ds] := _root_.id rfl
@[simp] theorem cellsOf_tpx {ds} : cellsOf (.tpx ds) = [.tpx ds] := _root_.id rfl
@[simp] theorem cellsOf_ptx {ds} : cellsOf (.ptx ds) = [.ptx ds] := _root_.id rfl
@[simp] theorem cellsOf_rfx {n sz ds} : cellsOf (.rfx n sz ds) = [.rfx n sz ds] := _root_.id rfl
@[simp] theorem cellsOf_fnx {g ds} : cellsOf (.fnx g ds) = [.fnx g ds] := _root_.id rfl
@[simp] theorem aggOf_any : aggOf (.any) = .any := _root_.id rfl
@[simp] theorem aggOf_int {k n} : aggOf (.int k n) = .int k n := _root_.id rfl
@[simp] theorem aggOf_bool {b} : aggOf (.bool b) = .bool b := _root_.id rfl
@[simp] theorem aggOf_str {s} : aggOf (.str s) = .str s := _root_.id rfl
@[simp] theorem aggOf_nilp : aggOf (.nilp) = .nilp := _root_.id rfl
@[simp] theorem aggOf_nils : aggOf (.nils) = .nils := _root_.id rfl
@[simp] theorem aggOf_agg {ds} : aggOf (.agg ds) = .agg ds := _root_.id rfl
@[simp] theorem aggOf_tup {ds} : aggOf (.tup ds) = .tup ds := _root_.id rfl
@[simp] theorem aggOf_sl {es} : aggOf (.sl es) = .sl es := _root_.id rfl
@[simp] theorem aggOf_ptr {ds} : aggOf (.ptr ds) = .ptr ds := _root_.id rfl
@[simp] theorem aggOf_fn {g ds} : aggOf (.fn g ds) = .fn g ds := _root_.id rfl
@[simp] theorem aggOf_own {sz es} : aggOf (.own sz es) = .own sz es := _root_.id rfl
@[simp] theorem aggOf_blk {sz es} : aggOf (.blk sz es) = .blk sz es := _root_.id rfl
@[simp] theorem aggOf_mp {kt et ks vs} : aggOf (.mp kt et ks vs) = .mp kt et ks vs := _root_.id rfl
@[simp] theorem aggOf_mrf {b} : aggOf (.mrf b) = .mrf b := _root_.id rfl
@[simp] theorem aggOf_ref {p k n} : aggOf (.ref p k n) = .ref p k n := _root_.id rfl
@[simp] theorem aggOf_adr {p i off} : aggOf (.adr p i off) = .adr p i off := _root_.id rfl
@[simp] theorem aggOf_agx {ds} : aggOf (.agx ds) = .agg ds := _root_.id rfl
@[simp] theorem aggOf_tpx {ds} : aggOf (.tpx ds) = .tpx ds := _root_.id rfl
@[simp] theorem aggOf_ptx {ds} : aggOf (.ptx ds) = .ptx ds := _root_.id rfl
@[simp] theorem aggOf_rfx {n sz ds} : aggOf (.rfx n sz ds) = .rfx n sz ds := _root_.id rfl
@[simp] theorem aggOf_fnx {g ds} : aggOf (.fnx g ds) = .fnx g ds := _root_.id rfl
@[simp] theorem cellV_any : cellV (.any) = .any := _root_.id rfl
@[simp] theorem cellV_int {k n} : cellV (.int k n) = .int k n := _root_.id rfl
@[simp] theorem cellV_bool {b} : cellV (.bool b) = .bool b := _root_.id rfl
@[simp] theorem cellV_str {s} : cellV (.str s) = .str s := _root_.id rfl
@[simp] theorem cellV_nilp : cellV (.nilp) = .nilp := _root_.id rfl
@[simp] theorem cellV_nils : cellV (.nils) = .nils := _root_.id rfl
@[simp] theorem cellV_agg {ds} : cellV (.agg ds) = .agg ds := _root_.id rfl
@[simp] theorem cellV_tup {ds} : cellV (.tup ds) = .tup ds := _root_.id rfl
@[simp] theorem cellV_sl {es} : cellV (.sl es) = .sl es := _root_.id rfl
@[simp] theorem cellV_ptr {ds} : cellV (.ptr ds) = .ptr ds := _root_.id rfl
@[simp] theorem cellV_fn {g ds} : cellV (.fn g ds) = .fn g ds := _root_.id rfl
@[simp] theorem cellV_own {sz es} : cellV (.own sz es) = .sl es := _root_.id rfl
@[simp] theorem cellV_blk {sz es} : cellV (.blk sz es) = .blk sz es := _root_.id rfl
@[simp] theorem cellV_mp {kt et ks vs} : cellV (.mp kt et ks vs) = .mp kt et ks vs := _root_.id rfl
@[simp] theorem cellV_mrf {b} : cellV (.mrf b) = .mrf b := _root_.id rfl
@[simp] theorem cellV_ref {p k n} : cellV (.ref p k n) = .ref p k n := _root_.id rfl
@[simp] theorem cellV_adr {p i off} : cellV (.adr p i off) = .adr p i off := _root_.id rfl
@[simp] theorem cellV_agx {ds} : cellV (.agx ds) = .agx ds := _root_.id rfl
@[simp] theorem cellV_tpx {ds} : cellV (.tpx ds) = .tpx ds := _root_.id rfl
@[simp] theorem cellV_ptx {ds} : cellV (.ptx ds) = .ptx ds := _root_.id rfl
@[simp] theorem cellV_rfx {n sz ds} : cellV (.rfx n sz ds) = .rfx n sz ds := _root_.id rfl
@[simp] theorem cellV_fnx {g ds} : cellV (.fnx g ds) = .fnx g ds := _root_.id rfl
@[simp] theorem mroots1_any : mroots1 (.any) = [] := _root_.id rfl
@[simp] theorem mroots1_int {k n} : mroots1 (.int k n) = [] := _root_.id rfl
@[simp] theorem mroots1_bool {b} : mroots1 (.bool b) = [] := _root_.id rfl
@[simp] theorem mroots1_str {s} : mroots1 (.str s) = [] := _root_.id rfl
@[simp] theorem mroots1_nilp : mroots1 (.nilp) = [] := _root_.id rfl
@[simp] theorem mroots1_nils : mroots1 (.nils) = [] := _root_.id rfl
@[simp] theorem mroots1_agg {ds} : mroots1 (.agg ds) = [] := _root_.id rfl
@[simp] theorem mroots1_tup {ds} : mroots1 (.tup ds) = [] := _root_.id rfl
@[simp] theorem mroots1_sl {es} : mroots1 (.sl es) = [] := _root_.id rfl
@[simp] theorem mroots1_ptr {ds} : mroots1 (.ptr ds) = [] := _root_.id rfl
@[simp] theorem mroots1_fn {g ds} : mroots1 (.fn g ds) = [] := _root_.id rfl
@[simp] theorem mroots1_own {sz es} : mroots1 (.own sz es) = [] := _root_.id rfl
@[simp] theorem mroots1_blk {sz es} : mroots1 (.blk sz es) = [] := _root_.id rfl
@[simp] theorem mroots1_mp {kt et ks vs} : mroots1 (.mp kt et ks vs) = [] := _root_.id rfl
@[simp] theorem mroots1_mrf {b} : mroots1 (.mrf b) = [b] := _root_.id rfl
@[simp] theorem mroots1_ref {p k n} : mroots1 (.ref p k n) = [p.root] := _root_.id rfl
@[simp] theorem mroots1_adr {p i off} : mroots1 (.adr p i off) = [p.root] := _root_.id rfl
@[simp] theorem mroots1_agx {ds} : mroots1 (.agx ds) = [] := _root_.id rfl
@[simp] theorem mroots1_tpx {ds} : mroots1 (.tpx ds) = [] := _root_.id rfl
@[simp] theorem mroots1_ptx {ds} : mroots1 (.ptx ds) = [] := _root_.id rfl
@[simp] theorem mroots1_rfx {n sz ds} : mroots1 (.rfx n sz ds) = [] := _root_.id rfl
@[simp] theorem mroots1_fnx {g ds} : mroots1 (.fnx g ds) = [] := _root_.id rfl
@[simp] theorem mroots_any : mroots (.any) = [] := _root_.id rfl
@[simp] theorem mroots_int {k n} : mroots (.int k n) = [] := _root_.id rfl
@[simp] theorem mroots_bool {b} : mroots (.bool b) = [] := _root_.id rfl
@[simp] theorem mroots_str {s} : mroots (.str s) = [] := _root_.id rfl
@[simp] theorem mroots_nilp : mroots (.nilp) = [] := _root_.id rfl
@[simp] theorem mroots_nils : mroots (.nils) = [] := _root_.id rfl
@[simp] theorem mroots_agg {ds} : mroots (.agg ds) = [] := _root_.id rfl
@[simp] theorem mroots_tup {ds} : mroots (.tup ds) = [] := _root_.id rfl
@[simp] theorem mroots_sl {es} : mroots (.sl es) = [] := _root_.id rfl
@[simp] theorem mroots_ptr {ds} : mroots (.ptr ds) = [] := _root_.id rfl
@[simp] theorem mroots_fn {g ds} : mroots (.fn g ds) = [] := _root_.id rfl
@[simp] theorem mroots_own {sz es} : mroots (.own sz es) = [] := _root_.id rfl
@[simp] theorem mroots_blk {sz es} : mroots (.blk sz es) = [] := _root_.id rfl
@[simp] theorem mroots_mp {kt et ks vs} : mroots (.mp kt et ks vs) = [] := _root_.id rfl
@[simp] theorem mroots_mrf {b} : mroots (.mrf b) = [b] := _root_.id rfl
@[simp] theorem mroots_ref {p k n} : mroots (.ref p k n) = [p.root] := _root_.id rfl
@[simp] theorem mroots_adr {p i off} : mroots (.adr p i off) = [p.root] := _root_.id rfl
@[simp] theorem mroots_agx {ds} : mroots (.agx ds) = ds.flatMap mroots1 := _root_.id rfl
@[simp] theorem mroots_tpx {ds} : mroots (.tpx ds) = ds.flatMap mroots1 := _root_.id rfl
@[simp] theorem mroots_ptx {ds} : mroots (.ptx ds) = ds.flatMap mroots1 := _root_.id rfl
@[simp] theorem mroots_rfx {n sz ds} : mroots (.rfx n sz ds) = ds.flatMap mroots1 := _root_.id rfl
@[simp] theorem mroots_fnx {g ds} : mroots (.fnx g ds) = ds.flatMap mroots1 := _root_.id rfl
@[simp] theorem dp1_any {f : Nat → D} : dp1 f (.any) = (.any) := _root_.id rfl
@[simp] theorem dp1_int {f : Nat → D} {k n} : dp1 f (.int k n) = (.int k n) := _root_.id rfl
@[simp] theorem dp1_bool {f : Nat → D} {b} : dp1 f (.bool b) = (.bool b) := _root_.id rfl
@[simp] theorem dp1_str {f : Nat → D} {s} : dp1 f (.str s) = (.str s) := _root_.id rfl
@[simp] theorem dp1_nilp {f : Nat → D} : dp1 f (.nilp) = (.nilp) := _root_.id rfl
@[simp] theorem dp1_nils {f : Nat → D} : dp1 f (.nils) = (.nils) := _root_.id rfl
@[simp] theorem dp1_agg {f : Nat → D} {ds} : dp1 f (.agg ds) = (.agg ds) := _root_.id rfl
@[simp] theorem dp1_tup {f : Nat → D} {ds} : dp1 f (.tup ds) = (.tup ds) := _root_.id rfl
@[simp] theorem dp1_sl {f : Nat → D} {es} : dp1 f (.sl es) = (.sl es) := _root_.id rfl
@[simp] theorem dp1_ptr {f : Nat → D} {ds} : dp1 f (.ptr ds) = (.ptr ds) := _root_.id rfl
@[simp] theorem dp1_fn {f : Nat → D} {g ds} : dp1 f (.fn g ds) = (.fn g ds) := _root_.id rfl
@[simp] theorem dp1_own {f : Nat → D} {sz es} : dp1 f (.own sz es) = (.own sz es) := _root_.id rfl
@[simp] theorem dp1_blk {f : Nat → D} {sz es} : dp1 f (.blk sz es) = (.blk sz es) := _root_.id rfl
@[simp] theorem dp1_mp {f : Nat → D} {kt et ks vs} : dp1 f (.mp kt et ks vs) = (.mp kt et ks vs) := _root_.id rfl
@[simp] theorem dp1_mrf {f : Nat → D} {b} : dp1 f (.mrf b) = (.mrf b) := _root_.id rfl
@[simp] theorem dp1_ref {f : Nat → D} {p k n} : dp1 f (.ref p k n) = (match getP f p with | some (_, es) => .sl (((es.drop k).take n).map fun e => e.map cellV) | none => .any) := _root_.id rfl
@[simp] theorem dp1_adr {f : Nat → D} {p i off} : dp1 f (.adr p i off) = (match getP f p with | some (_, es) => .ptr (((es[i]?.getD []).drop off).map cellV) | none => .any) := _root_.id rfl
@[simp] theorem dp1_agx {f : Nat → D} {ds} : dp1 f (.agx ds) = (.agx ds) := _root_.id rfl
@[simp] theorem dp1_tpx {f : Nat → D} {ds} : dp1 f (.tpx ds) = (.tpx ds) := _root_.id rfl
@[simp] theorem dp1_ptx {f : Nat → D} {ds} : dp1 f (.ptx ds) = (.ptx ds) := _root_.id rfl
@[simp] theorem dp1_rfx {f : Nat → D} {n sz ds} : dp1 f (.rfx n sz ds) = (.rfx n sz ds) := _root_.id rfl
@[simp] theorem dp1_fnx {f : Nat → D} {g ds} : dp1 f (.fnx g ds) = (.fnx g ds) := _root_.id rfl
@[simp] theorem dp_any {f : Nat → D} : dp f (.any) = (.any) := _root_.id rfl
@[simp] theorem dp_int {f : Nat → D} {k n} : dp f (.int k n) = (.int k n) := _root_.id rfl
@[simp] theorem dp_bool {f : Nat → D} {b} : dp f (.bool b) = (.bool b) := _root_.id rfl
@[simp] theorem dp_str {f : Nat → D} {s} : dp f (.str s) = (.str s) := _root_.id rfl
@[simp] theorem dp_nilp {f : Nat → D} : dp f (.nilp) = (.nilp) := _root_.id rfl
@[simp] theorem dp_nils {f : Nat → D} : dp f (.nils) = (.nils) := _root_.id rfl
@[simp] theorem dp_agg {f : Nat → D} {ds} : dp f (.agg ds) = (.agg ds) := _root_.id rfl
@[simp] theorem dp_tup {f : Nat → D} {ds} : dp f (.tup ds) = (.tup ds) := _root_.id rfl
@[simp] theorem dp_sl {f : Nat → D} {es} : dp f (.sl es) = (.sl es) := _root_.id rfl
@[simp] theorem dp_ptr {f : Nat → D} {ds} : dp f (.ptr ds) = (.ptr ds) := _root_.id rfl
@[simp] theorem dp_fn {f : Nat → D} {g ds} : dp f (.fn g ds) = (.fn g ds) := _root_.id rfl
@[simp] theorem dp_own {f : Nat → D} {sz es} : dp f (.own sz es) = (.own sz es) := _root_.id rfl
@[simp] theorem dp_blk {f : Nat → D} {sz es} : dp f (.blk sz es) = (.blk sz es) := _root_.id rfl
@[simp] theorem dp_mp {f : Nat → D} {kt et ks vs} : dp f (.mp kt et ks vs) = (.mp kt et ks vs) := _root_.id rfl
@[simp] theorem dp_mrf {f : Nat → D} {b} : dp f (.mrf b) = (.mrf b) := _root_.id rfl
@[simp] theorem dp_ref {f : Nat → D} {p k n} : dp f (.ref p k n) = (match getP f p with | some (_, es) => .sl (((es.drop k).take n).map fun e => e.map cellV) | none => .any) := _root_.id rfl
@[simp] theorem dp_adr {f : Nat → D} {p i off} : dp f (.adr p i off) = (match getP f p with | some (_, es) => .ptr (((es[i]?.getD []).drop off).map cellV) | none => .any) := _root_.id rfl
@[simp] theorem dp_agx {f : Nat → D} {ds} : dp f (.agx ds) = (.agg (ds.map (dp1 f))) := _root_.id rfl
@[simp] theorem dp_tpx {f : Nat → D} {ds} : dp f (.tpx ds) = (.tup (ds.map (dp1 f))) := _root_.id rfl
@[simp] theorem dp_ptx {f : Nat → D} {ds} : dp f (.ptx ds) = (.ptr (ds.map (dp1 f))) := _root_.id rfl
@[simp] theorem dp_rfx {f : Nat → D} {n sz ds} : dp f (.rfx n sz ds) = .rfx n sz ds := _root_.id rfl
@[simp] theorem dp_fnx {f : Nat → D} {g ds} : dp f (.fnx g ds) = (.fn g (ds.map (dp1 f))) := _root_.id rfl
@[simp] theorem dpOk1_any {f : Nat → D} : dpOk1 f (.any) = (True) := _root_.id rfl
@[simp] theorem dpOk1_int {f : Nat → D} {k n} : dpOk1 f (.int k n) = (True) := _root_.id rfl
@[simp] theorem dpOk1_bool {f : Nat → D} {b} : dpOk1 f (.bool b) = (True) := _root_.id rfl
@[simp] theorem dpOk1_str {f : Nat → D} {s} : dpOk1 f (.str s) = (True) := _root_.id rfl
@[simp] theorem dpOk1_nilp {f : Nat → D} : dpOk1 f (.nilp) = (True) := _root_.id rfl
@[simp] theorem dpOk1_nils {f : Nat → D} : dpOk1 f (.nils) = (True) := _root_.id rfl
@[simp] theorem dpOk1_agg {f : Nat → D} {ds} : dpOk1 f (.agg ds) = (True) := _root_.id rfl
@[simp] theorem dpOk1_tup {f : Nat → D} {ds} : dpOk1 f (.tup ds) = (True) := _root_.id rfl
@[simp] theorem dpOk1_sl {f : Nat → D} {es} : dpOk1 f (.sl es) = (True) := _root_.id rfl
@[simp] theorem dpOk1_ptr {f : Nat → D} {ds} : dpOk1 f (.ptr ds) = (True) := _root_.id rfl
@[simp] theorem dpOk1_fn {f : Nat → D} {g ds} : dpOk1 f (.fn g ds) = (True) := _root_.id rfl
@[simp] theorem dpOk1_own {f : Nat → D} {sz es} : dpOk1 f (.own sz es) = (True) := _root_.id rfl
@[simp] theorem dpOk1_blk {f : Nat → D} {sz es} : dpOk1 f (.blk sz es) = (True) := _root_.id rfl
@[simp] theorem dpOk1_mp {f : Nat → D} {kt et ks vs} : dpOk1 f (.mp kt et ks vs) = (True) := _root_.id rfl
@[simp] theorem dpOk1_mrf {f : Nat → D} {b} : dpOk1 f (.mrf b) = (False) := _root_.id rfl
@[simp] theorem dpOk1_ref {f : Nat → D} {p k n} : dpOk1 f (.ref p k n) = (match getP f p with | some (_, es) => k + n ≤ es.length | none => False) := _root_.id rfl
@[simp] theorem dpOk1_adr {f : Nat → D} {p i off} : dpOk1 f (.adr p i off) = (match getP f p with | some _ => True | none => False) := _root_.id rfl
@[simp] theorem dpOk1_agx {f : Nat → D} {ds} : dpOk1 f (.agx ds) = (True) := _root_.id rfl
@[simp] theorem dpOk1_tpx {f : Nat → D} {ds} : dpOk1 f (.tpx ds) = (True) := _root_.id rfl
@[simp] theorem dpOk1_ptx {f : Nat → D} {ds} : dpOk1 f (.ptx ds) = (True) := _root_.id rfl
@[simp] theorem dpOk1_rfx {f : Nat → D} {n sz ds} : dpOk1 f (.rfx n sz ds) = (True) := _root_.id rfl
@[simp] theorem dpOk1_fnx {f : Nat → D} {g ds} : dpOk1 f (.fnx g ds) = (True) := _root_.id rfl
@[simp] theorem dpOk_any {f : Nat → D} : dpOk f (.any) = (True) := _root_.id rfl
@[simp] theorem dpOk_int {f : Nat → D} {k n} : dpOk f (.int k n) = (True) := _root_.id rfl
@[simp] theorem dpOk_bool {f : Nat → D} {b} : dpOk f (.bool b) = (True) := _root_.id rfl
@[simp] theorem dpOk_str {f : Nat → D} {s} : dpOk f (.str s) = (True) := _root_.id rfl
@[simp] theorem dpOk_nilp {f : Nat → D} : dpOk f (.nilp) = (True) := _root_.id rfl
@[simp] theorem dpOk_nils {f : Nat → D} : dpOk f (.nils) = (True) := _root_.id rfl
@[simp] theorem dpOk_agg {f : Nat → D} {ds} : dpOk f (.agg ds) = (True) := _root_.id rfl
@[simp] theorem dpOk_tup {f : Nat → D} {ds} : dpOk f (.tup ds) = (True) := _root_.id rfl
@[simp] theorem dpOk_sl {f : Nat → D} {es} : dpOk f (.sl es) = (True) := _root_.id rfl
@[simp] theorem dpOk_ptr {f : Nat → D} {ds} : dpOk f (.ptr ds) = (True) := _root_.id rfl
@[simp] theorem dpOk_fn {f : Nat → D} {g ds} : dpOk f (.fn g ds) = (True) := _root_.id rfl
@[simp] theorem dpOk_own {f : Nat → D} {sz es} : dpOk f (.own sz es) = (True) := _root_.id rfl
@[simp] theorem dpOk_blk {f : Nat → D} {sz es} : dpOk f (.blk sz es) = (True) := _root_.id rfl
@[simp] theorem dpOk_mp {f : Nat → D} {kt et ks vs} : dpOk f (.mp kt et ks vs) = (True) := _root_.id rfl
@[simp] theorem dpOk_mrf {f : Nat → D} {b} : dpOk f (.mrf b) = (False) := _root_.id rfl
@[simp] theorem dpOk_ref {f : Nat → D} {p k n} : dpOk f (.ref p k n) = (match getP f p with | some (_, es) => k + n ≤ es.length | none => False) := _root_.id rfl
@[simp] theorem dpOk_adr {f : Nat → D} {p i off} : dpOk f (.adr p i off) = (match getP f p with | some _ => True | none => False) := _root_.id rfl
@[simp] theorem dpOk_agx {f : Nat → D} {ds} : dpOk f (.agx ds) = (∀ d ∈ ds, dpOk1 f d) := _root_.id rfl
@[simp] theorem dpOk_tpx {f : Nat → D} {ds} : dpOk f (.tpx ds) = (∀ d ∈ ds, dpOk1 f d) := _root_.id rfl
@[simp] theorem dpOk_ptx {f : Nat → D} {ds} : dpOk f (.ptx ds) = (∀ d ∈ ds, dpOk1 f d) := _root_.id rfl
@[simp] theorem dpOk_rfx {f : Nat → D} {n sz ds} : dpOk f (.rfx n sz ds) = False := _root_.id rfl
@[simp] theorem dpOk_fnx {f : Nat → D} {g ds} : dpOk f (.fnx g ds) = (∀ d ∈ ds, dpOk1 f d) := _root_.id rfl
@[simp] theorem ldc_any {p i0 o} : ldc p i0 o (.any) = .any := _root_.id rfl
@[simp] theorem nil1_any {m} : nil1 m (.any) = .any := _root_.id rfl
@[simp] theorem ldc_int {p i0 o k n} : ldc p i0 o (.int k n) = .int k n := _root_.id rfl
@[simp] theorem nil1_int {m k n} : nil1 m (.int k n) = .int k n := _root_.id rfl
@[simp] theorem ldc_bool {p i0 o b} : ldc p i0 o (.bool b) = .bool b := _root_.id rfl
@[simp] theorem nil1_bool {m b} : nil1 m (.bool b) = .bool b := _root_.id rfl
@[simp] theorem ldc_str {p i0 o s} : ldc p i0 o (.str s) = .str s := _root_.id rfl
@[simp] theorem nil1_str {m s} : nil1 m (.str s) = .str s := _root_.id rfl
@[simp] theorem ldc_nilp {p i0 o} : ldc p i0 o (.nilp) = .nilp := _root_.id rfl
@[simp] theorem nil1_nilp {m} : nil1 m (.nilp) = .nilp := _root_.id rfl
@[simp] theorem ldc_nils {p i0 o} : ldc p i0 o (.nils) = .nils := _root_.id rfl
@[simp] theorem ldc_agg {p i0 o ds} : ldc p i0 o (.agg ds) = .agg ds := _root_.id rfl
@[simp] theorem nil1_agg {m ds} : nil1 m (.agg ds) = .agg ds := _root_.id rfl
@[simp] theorem ldc_tup {p i0 o ds} : ldc p i0 o (.tup ds) = .tup ds := _root_.id rfl
@[simp] theorem nil1_tup {m ds} : nil1 m (.tup ds) = .tup ds := _root_.id rfl
@[simp] theorem ldc_sl {p i0 o es} : ldc p i0 o (.sl es) = .sl es := _root_.id rfl
@[simp] theorem nil1_sl {m es} : nil1 m (.sl es) = .sl es := _root_.id rfl
@[simp] theorem ldc_ptr {p i0 o ds} : ldc p i0 o (.ptr ds) = .ptr ds := _root_.id rfl
@[simp] theorem nil1_ptr {m ds} : nil1 m (.ptr ds) = .ptr ds := _root_.id rfl
@[simp] theorem ldc_fn {p i0 o g ds} : ldc p i0 o (.fn g ds) = .fn g ds := _root_.id rfl
@[simp] theorem nil1_fn {m g ds} : nil1 m (.fn g ds) = .fn g ds := _root_.id rfl
@[simp] theorem ldc_own {c i o sz es} : ldc (.r c) i o (.own sz es) = .ref (.n c i o) 0 es.length := _root_.id rfl
@[simp] theorem nil1_own {m sz es} : nil1 m (.own sz es) = .own sz es := _root_.id rfl
@[simp] theorem ldc_blk {p i0 o sz es} : ldc p i0 o (.blk sz es) = .blk sz es := _root_.id rfl
@[simp] theorem nil1_blk {m sz es} : nil1 m (.blk sz es) = .blk sz es := _root_.id rfl
@[simp] theorem ldc_mp {p i0 o kt et ks vs} : ldc p i0 o (.mp kt et ks vs) = .mp kt et ks vs := _root_.id rfl
@[simp] theorem nil1_mp {m kt et ks vs} : nil1 m (.mp kt et ks vs) = .mp kt et ks vs := _root_.id rfl
@[simp] theorem ldc_mrf {p i0 o b} : ldc p i0 o (.mrf b) = .mrf b := _root_.id rfl
@[simp] theorem nil1_mrf {m b} : nil1 m (.mrf b) = .mrf b := _root_.id rfl
@[simp] theorem ldc_ref {p i0 o q k n} : ldc p i0 o (.ref q k n) = .ref q k n := _root_.id rfl
@[simp] theorem nil1_ref {m q k n} : nil1 m (.ref q k n) = .ref q k n := _root_.id rfl
@[simp] theorem ldc_adr {p i0 o q i off} : ldc p i0 o (.adr q i off) = .adr q i off := _root_.id rfl
@[simp] theorem nil1_adr {m q i off} : nil1 m (.adr q i off) = .adr q i off := _root_.id rfl
@[simp] theorem ldc_agx {p i0 o ds} : ldc p i0 o (.agx ds) = .agx ds := _root_.id rfl
@[simp] theorem nil1_agx {m ds} : nil1 m (.agx ds) = .agx ds := _root_.id rfl
@[simp] theorem ldc_tpx {p i0 o ds} : ldc p i0 o (.tpx ds) = .tpx ds := _root_.id rfl
@[simp] theorem nil1_tpx {m ds} : nil1 m (.tpx ds) = .tpx ds := _root_.id rfl
@[simp] theorem ldc_ptx {p i0 o ds} : ldc p i0 o (.ptx ds) = .ptx ds := _root_.id rfl
@[simp] theorem ldc_rfx {p i0 o n sz ds} : ldc p i0 o (.rfx n sz ds) = .rfx n sz ds := _root_.id rfl
@[simp] theorem nil1_ptx {m ds} : nil1 m (.ptx ds) = .ptx ds := _root_.id rfl
@[simp] theorem nil1_rfx {m n sz ds} : nil1 m (.rfx n sz ds) = .rfx n sz ds := _root_.id rfl
@[simp] theorem ldc_fnx {p i0 o g ds} : ldc p i0 o (.fnx g ds) = .fnx g ds := _root_.id rfl
@[simp] theorem nil1_fnx {m g ds} : nil1 m (.fnx g ds) = .fnx g ds := _root_.id rfl
@[simp] theorem nil1_nils {m} : nil1 m .nils = if m = 0 then .nils else .own m [] := _root_.id rfl
def slx (b : Bool) (es : List (List D)) : D := match b, es with
  | true, [] => .nils
  | _, es => .sl es
@[simp] theorem slx_false {es} : slx false es = .sl es := by cases es <;> rfl
@[simp] theorem slx_cons {b x es} : slx b (x :: es) = .sl (x :: es) := by cases b <;> rfl
theorem slx_cases (b : Bool) (es : List (List D)) : slx b es = .sl es ∨ (slx b es = .nils ∧ es = []) := by cases b <;> cases es <;> simp [slx]
@[simp] theorem isV_slx {b es} : isV (slx b es) = true := by cases b <;> cases es <;> rfl
@[simp] theorem isK_slx {b es} : isK (slx b es) = true := by cases b <;> cases es <;> rfl
@[simp] theorem isP_slx {b es} : isP (slx b es) = true := by cases b <;> cases es <;> rfl
@[simp] theorem isS_slx {b es} : isS (slx b es) = true := by cases b <;> cases es <;> rfl
@[simp] theorem isC1_slx {b es} : isC1 (slx b es) = true := by cases b <;> cases es <;> rfl
@[simp] theorem isO_slx {b es} : isO (slx b es) = false := by cases b <;> cases es <;> rfl
@[simp] theorem isAny_slx {b es} : isAny (slx b es) = false := by cases b <;> cases es <;> rfl
@[simp] theorem isB_slx {b es} : isB (slx b es) = false := by cases b <;> cases es <;> rfl
@[simp] theorem cellsOf_slx {b es} : cellsOf (slx b es) = [slx b es] := by cases b <;> cases es <;> rfl
@[simp] theorem aggOf_slx {b es} : aggOf (slx b es) = slx b es := by cases b <;> cases es <;> rfl
@[simp] theorem cellV_slx {b es} : cellV (slx b es) = slx b es := by cases b <;> cases es <;> rfl
@[simp] theorem mroots1_slx {b es} : mroots1 (slx b es) = [] := by cases b <;> cases es <;> rfl
@[simp] theorem mroots_slx {b es} : mroots (slx b es) = [] := by cases b <;> cases es <;> rfl
@[simp] theorem dp1_slx {f : Nat → D} {b es} : dp1 f (slx b es) = slx b es := by cases b <;> cases es <;> rfl
@[simp] theorem dp_slx {f : Nat → D} {b es} : dp f (slx b es) = slx b es := by cases b <;> cases es <;> rfl
@[simp] theorem dpOk1_slx {f : Nat → D} {b es} : dpOk1 f (slx b es) = True := by cases b <;> cases es <;> rfl
@[simp] theorem dpOk_slx {f : Nat → D} {b es} : dpOk f (slx b es) = True := by cases b <;> cases es <;> rfl
@[simp] theorem ldc_slx {p i o b es} : ldc p i o (slx b es) = slx b es := by cases b <;> cases es <;> rfl
def lenM (d : D) (K : Nat → Prop) (_ : Tag K) : Prop := match d with
  | .sl es => K es.length
  | .nils => K 0
  | .ref _ _ n => K n
  | .rfx n _ _ => K n
  | _ => False
@[simp] theorem lenM_rfx {n sz ds K u} : lenM (.rfx n sz ds) K u = K n := _root_.id rfl
@[simp] theorem lenM_sl {es K u} : lenM (.sl es) K u = K es.length := _root_.id rfl
@[simp] theorem lenM_nils {K u} : lenM .nils K u = K 0 := _root_.id rfl
@[simp] theorem lenM_ref {p k n K u} : lenM (.ref p k n) K u = K n := _root_.id rfl
@[simp] theorem lenM_slx {b es K u} : lenM (slx b es) K u = K es.length := by cases b <;> cases es <;> rfl
@[simp] theorem pack_true {n ds} : pack true n ds = .agg (ds.take n) := _root_.id rfl
@[simp] theorem pack_false {n ds} : pack false n ds = ds.headD .any := _root_.id rfl
@[simp] theorem look_nil {t} : look [] t = .any := rfl
def lk (b : Bool) (d : D) (r : Env) (t : Nat) : D := match b with
  | true => d
  | false => look r t
@[simp] theorem lk_true {d r t} : lk true d r t = d := rfl
@[simp] theorem lk_false {d r t} : lk false d r t = look r t := rfl
@[simp] theorem look_cons {s d r t} : look ((s, d) :: r) t = lk (s == t) d r t := by
  by_cases h : s = t
  · subst h; simp [look]
  · rw [show (s == t) = false by simp [h]]; simp [look, h]
@[simp] theorem keepS_nil {e} : keepS [] e = [] := _root_.id rfl
@[simp] theorem keepS_cons {t ts e} : keepS (t :: ts) e = (t, look e t) :: keepS ts e := _root_.id rfl
@[simp] theorem rootsOf_nil : rootsOf [] = [] := _root_.id rfl
@[simp] theorem rootsOf_cons {t d r} : rootsOf ((t, d) :: r) = mroots d ++ rootsOf r := _root_.id rfl
@[simp] theorem addR_nil {e ks} : addR e [] ks = ks := _root_.id rfl
@[simp] theorem addR_cons {e r rs ks} : addR e (r :: rs) ks = addR e rs (if (ks.map (·.1)).contains r then ks else ks ++ [(r, look e r)]) := _root_.id rfl
def absT (f : Nat → D) (d : D) (ns : List Nat) (K : List D → List Nat → Prop) (_ : Tag K) : Prop := absW f d ns K
def abs1T (f : Nat → D) (d : D) (K : D → List Nat → Prop) (_ : Tag K) : Prop := abs1W f d K
def absLT (f : Nat → D) (ds : List D) (K : List D → List Nat → Prop) (_ : Tag K) : Prop := absLW f ds K
def ab1B (b n : Nat) (x : D) (K : D → List Nat → Prop) (_ : Tag K) : Prop := match x with
  | .blk sz es => es.length = n ∧ (∀ e ∈ es, ∀ c ∈ e, isC1 c = true) ∧ K (.own sz es) [b]
  | _ => False
@[simp] theorem ab1B_blk {b n sz es K u} : ab1B b n (.blk sz es) K u = (es.length = n ∧ (∀ e ∈ es, ∀ c ∈ e, isC1 c = true) ∧ K (.own sz es) [b]) := _root_.id rfl
theorem abs1T_c1 {f : Nat → D} {d : D} {K : D → List Nat → Prop} {u} (h : isC1 d = true) : abs1T f d K u = K d [] := by
  cases d <;> simp [isC1] at h <;> simp [abs1T, abs1W, isC1]
@[simp] theorem abs1T_ref {f b k n K u} : abs1T f (.ref (.r b) k n) K u = (k = 0 ∧ ab1B b n (f b) K ⟨⟩) := by
  simp only [abs1T, abs1W, ab1B]
  cases f b <;> rfl
theorem absT_c1 {f : Nat → D} {d : D} {K : List D → List Nat → Prop} {u} (h : isC1 d = true) : absT f d [] K u = K [d] [] := by
  cases d <;> simp [isC1] at h <;> simp [absT, absW, abs1W, isC1, nilC]
@[simp] theorem absT_agg {f ds K u} : absT f (.agg ds) [] K u = ((∀ c ∈ ds, isC1 c = true) ∧ K ds []) := by simp [absT, absW, nilC]
@[simp] theorem absT_agx {f ds K u} : absT f (.agx ds) [] K u = absLT f ds (fun cs bs => noDupN bs = true ∧ K cs bs) ⟨⟩ := by simp [absT, absLT, absW, nilC]
@[simp] theorem absT_ref {f b k n K u} : absT f (.ref (.r b) k n) [] K u = (k = 0 ∧ ab1B b n (f b) (fun c bs => K [c] bs) ⟨⟩) := by
  simp only [absT, absW, abs1W, ab1B, nilC, if_true, true_or, true_and]
  cases f b <;> rfl
@[simp] theorem absLT_nil {f K u} : absLT f [] K u = K [] [] := _root_.id rfl
@[simp] theorem absLT_cons {f d ds K u} : absLT f (d :: ds) K u = abs1T f d (fun c bs => absLT f ds (fun cs bs' => K (c :: cs) (bs ++ bs')) ⟨⟩) ⟨⟩ := _root_.id rfl
@[simp] theorem abs1T_int {f k n K u} : abs1T f (.int k n) K u = K (.int k n) [] := abs1T_c1 rfl
@[simp] theorem absT_int {f k n K u} : absT f (.int k n) [] K u = K [.int k n] [] := absT_c1 rfl
@[simp] theorem abs1T_bool {f n K u} : abs1T f (.bool n) K u = K (.bool n) [] := abs1T_c1 rfl
@[simp] theorem absT_bool {f n K u} : absT f (.bool n) [] K u = K [.bool n] [] := absT_c1 rfl
@[simp] theorem abs1T_str {f n K u} : abs1T f (.str n) K u = K (.str n) [] := abs1T_c1 rfl
@[simp] theorem absT_str {f n K u} : absT f (.str n) [] K u = K [.str n] [] := absT_c1 rfl
@[simp] theorem abs1T_nilp {f  K u} : abs1T f .nilp K u = K .nilp [] := abs1T_c1 rfl
@[simp] theorem absT_nilp {f  K u} : absT f .nilp [] K u = K [.nilp] [] := absT_c1 rfl
@[simp] theorem abs1T_nils {f  K u} : abs1T f .nils K u = K .nils [] := abs1T_c1 rfl
@[simp] theorem absT_nils {f  K u} : absT f .nils [] K u = K [.nils] [] := absT_c1 rfl
@[simp] theorem abs1T_sl {f n K u} : abs1T f (.sl n) K u = K (.sl n) [] := abs1T_c1 rfl
@[simp] theorem absT_sl {f n K u} : absT f (.sl n) [] K u = K [.sl n] [] := absT_c1 rfl
@[simp] theorem abs1T_ptr {f n K u} : abs1T f (.ptr n) K u = K (.ptr n) [] := abs1T_c1 rfl
@[simp] theorem absT_ptr {f n K u} : absT f (.ptr n) [] K u = K [.ptr n] [] := absT_c1 rfl
@[simp] theorem abs1T_fn {f g n K u} : abs1T f (.fn g n) K u = K (.fn g n) [] := abs1T_c1 rfl
@[simp] theorem absT_fn {f g n K u} : absT f (.fn g n) [] K u = K [.fn g n] [] := absT_c1 rfl
@[simp] theorem abs1T_slx {f b n K u} : abs1T f (slx b n) K u = K (slx b n) [] := abs1T_c1 (by simp)
@[simp] theorem absT_slx {f b n K u} : absT f (slx b n) [] K u = K [slx b n] [] := absT_c1 (by simp)
def partsT (f : Nat → D) (sz : Nat) (ps : List (Nat × Opd)) (es : List (List D)) (bs : List Nat) (K : List (List D) → List Nat → Prop) (_ : Tag K) : Prop := partsW f sz [] ps es bs K
@[simp] theorem partsT_nil {f sz es bs K u} : partsT f sz [] es bs K u = K es bs := _root_.id rfl
@[simp] theorem partsT_cons {f sz i x ps es bs K u} : partsT f sz ((i, x) :: ps) es bs K u = (i < es.length ∧ absT f (vd f x) [] (fun cs bs' => cs.length = sz ∧ partsT f sz ps (es.set i cs) (bs ++ bs') K ⟨⟩) ⟨⟩) := _root_.id rfl
def rowsT (f : Nat → D) (mv : Bool) (d : D) (sz : Nat) (K : List (List D) → List Nat → Prop) (_ : Tag K) : Prop := rowsW f mv d sz K
def rowB (b n sz : Nat) (x : D) (K : List (List D) → List Nat → Prop) (_ : Tag K) : Prop := match x with
  | .blk sz' es => sz' = sz ∧ es.length = n ∧ (∀ e ∈ es, ∀ c ∈ e, isC c = true) ∧ K es [b]
  | _ => False
@[simp] theorem rowB_blk {b n sz sz' es K u} : rowB b n sz (.blk sz' es) K u = (sz' = sz ∧ es.length = n ∧ (∀ e ∈ es, ∀ c ∈ e, isC c = true) ∧ K es [b]) := _root_.id rfl
def rowG (k n sz : Nat) (x : Option (Nat × List (List D))) (K : List (List D) → List Nat → Prop) (_ : Tag K) : Prop := match x with
  | some (sz', es) => sz' = sz ∧ k + n ≤ es.length ∧ (∀ e ∈ (es.drop k).take n, ∀ c ∈ e, isC1 c = true) ∧ K ((es.drop k).take n) []
  | none => False
@[simp] theorem rowG_some {k n sz sz' es K u} : rowG k n sz (some (sz', es)) K u = (sz' = sz ∧ k + n ≤ es.length ∧ (∀ e ∈ (es.drop k).take n, ∀ c ∈ e, isC1 c = true) ∧ K ((es.drop k).take n) []) := _root_.id rfl
@[simp] theorem rowsT_nils {f mv sz K u} : rowsT f mv .nils sz K u = K [] [] := _root_.id rfl
@[simp] theorem rowsT_sl {f mv es sz K u} : rowsT f mv (.sl es) sz K u = ((∀ e ∈ es, e.length = sz ∧ ∀ c ∈ e, isC1 c = true) ∧ K es []) := _root_.id rfl
@[simp] theorem rowsT_slx {f mv b es sz K u} : rowsT f mv (slx b es) sz K u = ((∀ e ∈ es, e.length = sz ∧ ∀ c ∈ e, isC1 c = true) ∧ K es []) := by
  rcases slx_cases b es with h | ⟨h, rfl⟩ <;> rw [h] <;> simp
@[simp] theorem rowsT_mv {f b k n sz K u} : rowsT f true (.ref (.r b) k n) sz K u = (k = 0 ∧ rowB b n sz (f b) K ⟨⟩) := by
  simp only [rowsT, rowsW, rowB]
  cases f b <;> rfl
@[simp] theorem rowsT_ref {f p k n sz K u} : rowsT f false (.ref p k n) sz K u = rowG k n sz (getP f p) K ⟨⟩ := by
  simp only [rowsT, rowsW, rowG]
  cases getP f p <;> rfl
def boundT (f : Nat → D) (o : Option Opd) (dflt : Nat) (K : Nat → Prop) (_ : Tag K) : Prop := bound f o dflt K
def bndI (d : D) (K : Nat → Prop) (_ : Tag K) : Prop := match d with
  | .int _ n => 0 ≤ n ∧ K n.toNat
  | _ => False
@[simp] theorem bndI_int {k n K u} : bndI (.int k n) K u = (0 ≤ n ∧ K n.toNat) := _root_.id rfl
@[simp] theorem boundT_none {f n K u} : boundT f none n K u = K n := _root_.id rfl
@[simp] theorem boundT_some {f x n K u} : boundT f (some x) n K u = bndI (vd f x) K ⟨⟩ := _root_.id rfl
def rowT (x : Option (List D)) (K : List D → Prop) (_ : Tag K) : Prop := match x with
  | some r => K r
  | none => False
@[simp] theorem rowT_some {r K u} : rowT (some r) K u = K r := _root_.id rfl
@[simp] theorem rowT_none {K u} : rowT none K u = False := _root_.id rfl
theorem rowT_eq {x : Option (List D)} {K : List D → Prop} {u} : rowT x K u = ∃ r, x = some r ∧ K r := by
  cases x <;> simp [rowT]
def ownT (x : Option D) (K : Nat → List (List D) → Prop) (_ : Tag K) : Prop := match x with
  | some (.own sz es) => K sz es
  | _ => False
@[simp] theorem ownT_own {sz es K u} : ownT (some (.own sz es)) K u = K sz es := _root_.id rfl
theorem ownT_eq {x : Option D} {K : Nat → List (List D) → Prop} {u} : ownT x K u = ∃ sz es, x = some (.own sz es) ∧ K sz es := by
  cases x with
  | none => simp [ownT]
  | some d =>
    cases d <;> simp [ownT]
    exact ⟨fun h => ⟨_, _, ⟨rfl, rfl⟩, h⟩, by rintro ⟨_, _, ⟨rfl, rfl⟩, h⟩; exact h⟩
def celT (x : Option D) (K : D → Prop) (_ : Tag K) : Prop := match x with
  | some d => K d
  | none => False
@[simp] theorem celT_some {d K u} : celT (some d) K u = K d := _root_.id rfl
theorem celT_eq {x : Option D} {K : D → Prop} {u} : celT x K u = ∃ d, x = some d ∧ K d := by
  cases x <;> simp [celT]
def blkT (x : D) (K : Nat → List (List D) → Prop) (_ : Tag K) : Prop := match x with
  | .blk sz es => K sz es
  | _ => False
@[simp] theorem blkT_blk {sz es K u} : blkT (.blk sz es) K u = K sz es := _root_.id rfl
abbrev CC := Nat → List D → D → List D → Prop
abbrev KT := List (Nat × D) → List (Nat × Bool) → Prop
section
variable {C : CC} {Q : NExit → Env → Prop} {e e' : Env} {d : D}
def wN (C : CC) (c : NCode) (Q : NExit → Env → Prop) (_ : Tag (c, Q)) (e : Env) : Prop := wpN C c Q e
def loopW (C : CC) (c : NCode) (Q : NExit → Env → Prop) (_ : Tag (c, Q)) (e : Env) : Prop := wpN C (.loop c) Q e
def opsW (C : CC) (K : Env → Prop) (ns : List NOper) (_ : Tag (K, ns)) (e : Env) : Prop := wpNs C K ns e
def opsD (C : CC) (hs : List Nat) (K : Env → Prop) (ns : List NOper) (_ : Tag (K, ns)) (e : Env) (acc : List (List Nat × List Nat)) : Prop := wpNd C hs K ns e acc
def indW (hs : List Nat) (acc : List (List Nat × List Nat)) : Prop := indOk hs acc.reverse = true
theorem indW_of {hs : List Nat} {acc : List (List Nat × List Nat)} (h : indOk hs acc.reverse = true) : indW hs acc := h
def contT (C : CC) (K : Env → Prop) (ns : List NOper) (e : Env) : KT := fun ws ks => wpNs C K ns (ws ++ killE ks e)
def contD (C : CC) (hs : List Nat) (K : Env → Prop) (ns : List NOper) (e : Env) (R : List Nat) (acc : List (List Nat × List Nat)) : KT := fun ws ks => wOk R ws ks = true ∧ wpNd C hs K ns (ws ++ killE ks e) ((R, wrK ws ks) :: acc)
def doT (C : CC) (K : Env → Prop) (ns : List NOper) (_ : Tag (K, ns)) (e : Env) (ws : List (Nat × D)) (ks : List (Nat × Bool)) : Prop := wpNs C K ns (ws ++ killE ks e)
def endW (Q : NExit → Env → Prop) (_ : Tag Q) (t : NExit) (e : Env) : Prop := Q t e
def fin (res : List (Nat × Option (Nat × Bool))) (d : D) : NExit → Env → Prop := fun t e => (match t with
      | .ext _ => False
      | _ => True) ∧ retOk res d e
def seqK (C : CC) (y : NCode) (Q : NExit → Env → Prop) : NExit → Env → Prop := fun t e' => match t with
    | .nrm => wpN C y Q e'
    | t => Q t e'
def blockK (id : Nat) (Q : NExit → Env → Prop) : NExit → Env → Prop := fun t e' => match t with
    | .ext i => if i = id then Q .nrm e' else Q (.ext i) e'
    | t => Q t e'
def regK (keep : List Nat) (Q : NExit → Env → Prop) : Env → Prop := fun e' => Q .nrm (prune keep e')
def kOf (C : CC) (hs : Option (List Nat)) (K : Env → Prop) (ns : List NOper) (e : Env) (R : List Nat) (acc : List (List Nat × List Nat)) : KT :=
  match hs with
  | none => contT C K ns e
  | some hs => contD C hs K ns e R acc
def doW (C : CC) (hs : Option (List Nat)) (K : Env → Prop) (ns : List NOper) (_ : Tag (hs, K, ns)) (e : Env) (R : List Nat) (acc : List (List Nat × List Nat)) (ws : List (Nat × D)) (ks : List (Nat × Bool)) : Prop := kOf C hs K ns e R acc ws ks
def opW (C : CC) (hs : Option (List Nat)) (K : Env → Prop) (ns : List NOper) (dst : Option Nat) (op : NOp) (_ : Tag (hs, K, ns, dst, op)) (e : Env) (R : List Nat) (acc : List (List Nat × List Nat)) : Prop := resX C (look e) dst (kOf C hs K ns e R acc) op
def dW (C : CC) (hs : Option (List Nat)) (K : Env → Prop) (ns : List NOper) (dst : Option Nat) (_ : Tag (hs, K, ns)) (e : Env) (R : List Nat) (acc : List (List Nat × List Nat)) (d : D) : Prop := dstK dst (kOf C hs K ns e R acc) d
def callW (C : CC) (g : Nat) (hs : Option (List Nat)) (K : Env → Prop) (ns : List NOper) (dst : Option Nat) (_ : Tag (hs, K, ns)) (e : Env) (R : List Nat) (acc : List (List Nat × List Nat)) (pure : Bool) (ds : List D) : Prop :=
  ∃ d, C g ds d [] ∧ (isF d = true ∨ pure = true) ∧ dstK dst (kOf C hs K ns e R acc) d
theorem start {prog : Nat → Option NFun} (hC : Closed prog C) {g : Nat} {nf : NFun} {ds : List D} (hp : prog g = some nf) (hl : ds.length = nf.np) (h : wN C nf.body (fin nf.res d) ⟨⟩ (params 0 ds)) : C g ds d [] := hC.1 g nf ds d hp hl h
def finF (res : List (Nat × Option (Nat × Bool))) (sz : Nat) (es : List (List D)) : NExit → Env → Prop := fun t e => (match t with
      | .ext _ => False
      | _ => True) ∧ retOwn res sz es e
def finG (res : List (Nat × Option (Nat × Bool))) (d : D) : NExit → Env → Prop := fun t e => (match t with
      | .ext _ => False
      | _ => True) ∧ retNew res d e
def finL (res : List (Nat × Option (Nat × Bool))) (d : D) (sz : Nat) (es' : List (List D)) : NExit → Env → Prop := fun t e => (match t with
      | .ext _ => False
      | _ => True) ∧ (0 < es'.length ∧ look e 10015 = .blk sz es') ∧ retOk res d ((10015, .any) :: e)
def finI (res : List (Nat × Option (Nat × Bool))) (sz : Nat) (es : List (List D)) : NExit → Env → Prop := fun t e => (match t with
      | .ext _ => False
      | _ => True) ∧ retRow res sz es e
def finA (res : List (Nat × Option (Nat × Bool))) (R : D) : NExit → Env → Prop := fun t e => (match t with
      | .ext _ => False
      | _ => True) ∧ retA res R e
def callAW (C : CC) (g : Nat) (hs : Option (List Nat)) (K : Env → Prop) (ns : List NOper) (t : Nat) (_ : Tag (hs, K, ns)) (e : Env) (R : List Nat) (acc : List (List Nat × List Nat)) (ds : List D) : Prop :=
  (∃ d, C g ds d [] ∧ dstK (some t) (kOf C hs K ns e R acc) d) ∨ ∃ d, okR d = true ∧ C g ds d [.nils] ∧ kOf C hs K ns e R acc ((t, hostD t d) :: hostR t d) (hostK t d)
def callGW (C : CC) (g : Nat) (hs : Option (List Nat)) (K : Env → Prop) (ns : List NOper) (dst : Option Nat) (_ : Tag (hs, K, ns)) (e : Env) (R : List Nat) (acc : List (List Nat × List Nat)) (ds : List D) : Prop :=
  ∃ d, C g ds d [.nilp] ∧ dstK dst (kOf C hs K ns e R acc) d
def callFW (C : CC) (g : Nat) (hs : Option (List Nat)) (K : Env → Prop) (ns : List NOper) (t : Nat) (_ : Tag (hs, K, ns)) (e : Env) (R : List Nat) (acc : List (List Nat × List Nat)) (ds : List D) : Prop :=
  ∃ sz es, C g ds .any [.own sz es] ∧ kOf C hs K ns e R acc [(t, .ref (.r (rt t 0)) 0 es.length), (rt t 0, .blk sz es)] [(rt t 0, true)]
def callSW (C : CC) (g : Nat) (hs : Option (List Nat)) (K : Env → Prop) (ns : List NOper) (dst : Option Nat) (_ : Tag (hs, K, ns)) (e : Env) (R : List Nat) (acc : List (List Nat × List Nat)) (b sz : Nat) (es : List (List D)) (ds : List D) (p : Bool) : Prop := match dst with
  | none => ∃ es' : List (List D), es'.length = es.length ∧ (∀ e ∈ es', e.length = sz ∧ ∀ c ∈ e, isC1 c = true) ∧ (p = true ∨ ∀ e ∈ es', ∀ c ∈ e, isF1 c = true) ∧ C g (.own sz es :: ds) .any [.own sz es', .nilp] ∧ doW C hs K ns ⟨⟩ e R acc [(b, .blk sz es')] []
  | some t => (∃ es' : List (List D), es'.length = es.length ∧ (∀ e ∈ es', e.length = sz ∧ ∀ c ∈ e, isC1 c = true) ∧ (p = true ∨ ∀ e ∈ es', ∀ c ∈ e, isF1 c = true) ∧ C g (.own sz es :: ds) .any [.own sz es', .nilp] ∧ doW C hs K ns ⟨⟩ e R acc [(t, .tup []), (b, .blk sz es')] []) ∨ (b ≠ rt t 0 ∧ 0 < sz ∧ ∃ es' : List (List D), (∀ e ∈ es', e.length = sz ∧ ∀ c ∈ e, isC1 c = true) ∧ (p = true ∨ ∀ e ∈ es', ∀ c ∈ e, isF1 c = true) ∧ C g (.own sz es :: ds) .any [.own sz es', .nils] ∧ doW C hs K ns ⟨⟩ e R acc [(t, .ref (.r (rt t 0)) 0 es'.length), (rt t 0, .blk sz es'), (b, .any)] [(rt t 0, true)])
theorem callUW_of {t : Nat} {g : Nat} {hs : Option (List Nat)} {K : Env → Prop} {ns : List NOper} {u : Tag (hs, K, ns)} {R : List Nat} {acc : List (List Nat × List Nat)} {b sz : Nat} {es es' : List (List D)} {ds : List D} {p : Bool} (h : C g (.own sz es :: ds) .any [.own sz es', .nilp]) (hp : (p = true ∨ ∀ e ∈ es', ∀ c ∈ e, isF1 c = true)) (hl : es'.length = es.length) (hu : (∀ e ∈ es', e.length = sz ∧ ∀ c ∈ e, isC1 c = true)) (hk : doW C hs K ns ⟨⟩ e R acc [(t, .tup []), (b, .blk sz es')] []) : callSW C g hs K ns (some t) u e R acc b sz es ds p := .inl ⟨es', hl, hu, hp, h, hk⟩
def srtB (C : CC) (g : Nat) (hs : Option (List Nat)) (K : Env → Prop) (ns : List NOper) (dst : Option Nat) (_ : Tag (hs, K, ns)) (e : Env) (R : List Nat) (acc : List (List Nat × List Nat)) (b n : Nat) (xs : List Opd) (d : D) : Prop := match d with
  | .blk sz es => es.length = n ∧ (∀ e ∈ es, ∀ c ∈ e, isC1 c = true) ∧ (∀ x ∈ xs, dpOk (fbE (look e) b) (vd (fbE (look e) b) x)) ∧ callSW C g hs K ns dst ⟨⟩ e R acc b sz es (xs.map (dpv (fbE (look e) b))) (xs.all fun y => isV (vd (fbE (look e) b) y))
  | _ => False
def srtM (C : CC) (g : Nat) (hs : Option (List Nat)) (K : Env → Prop) (ns : List NOper) (dst : Option Nat) (_ : Tag (hs, K, ns)) (e : Env) (R : List Nat) (acc : List (List Nat × List Nat)) (xs : List Opd) (d : D) : Prop := match d with
  | .ref (.r b) k n => k = 0 ∧ srtB C g hs K ns dst ⟨⟩ e R acc b n xs (look e b)
  | _ => False
@[simp] theorem fbE_ap {f : Nat → D} {b t : Nat} : fbE f b t = if t = b then .any else f t := _root_.id rfl
theorem callW_of {g : Nat} {hs : Option (List Nat)} {K : Env → Prop} {ns : List NOper} {dst : Option Nat} {u : Tag (hs, K, ns)} {R : List Nat} {acc : List (List Nat × List Nat)} {p : Bool} {ds : List D} (h : C g ds d []) (hf : isF d = true ∨ p = true) (hk : dW C hs K ns dst ⟨⟩ e R acc d) : callW C g hs K ns dst u e R acc p ds := ⟨d, h, hf, hk⟩
def roundK (S : Type) (G : S → Env) (I : S → Prop) (m : S → Nat) (s : S) (Q : NExit → Env → Prop) : NExit → Env → Prop := fun t e' => match t with
        | .nrm => ∃ s', I s' ∧ m s' < m s ∧ Weak e' (G s')
        | t => Q t e'
theorem loop_of {c : NCode} {u : Tag (c, Q)} (S : Type) (G : S → Env) (I : S → Prop) (m : S → Nat) (s0 : S) (h0 : I s0) (hw : Weak e (G s0))
    (h : ∀ s, I s → wN C c (roundK S G I m s Q) ⟨⟩ (G s)) : loopW C c Q u e := ⟨S, G, I, m, s0, h0, hw, h⟩
@[simp] theorem wN_skip {u} : wN C .skip Q u e = endW Q ⟨⟩ .nrm e := _root_.id rfl
@[simp] theorem wN_reg {hs keep ops u} : wN C (.reg false hs keep ops) Q u e = opsW C (regK keep Q) ops ⟨⟩ e := _root_.id rfl
@[simp] theorem wN_draw {hs keep ops u} : wN C (.reg true hs keep ops) Q u e = opsD C hs (regK keep Q) ops ⟨⟩ e [] := _root_.id rfl
@[simp] theorem wN_seq {x y u} : wN C (.seq x y) Q u e = wN C x (seqK C y Q) ⟨⟩ e := _root_.id rfl
def brB (b : Bool) (X Y : Prop) (_ : Tag (X, Y)) : Prop := (b = true → X) ∧ (b = false → Y)
theorem brB_of {b : Bool} {X Y : Prop} {u} (h1 : b = true → X) (h2 : b = false → Y) : brB b X Y u := ⟨h1, h2⟩
@[simp] theorem brB_true {X Y : Prop} {u} : brB true X Y u = X := by simp [brB]
@[simp] theorem brB_false {X Y : Prop} {u} : brB false X Y u = Y := by simp [brB]
def cdW (C : CC) (x y : NCode) (Q : NExit → Env → Prop) (_ : Tag (x, y, Q)) (e : Env) (d : D) : Prop := match d with
  | .bool b => brB b (wN C x Q ⟨⟩ e) (wN C y Q ⟨⟩ e) ⟨⟩
  | .bb => wN C x Q ⟨⟩ e ∧ wN C y Q ⟨⟩ e
  | _ => False
@[simp] theorem cdW_bb {x y u} : cdW C x y Q u e .bb = (wN C x Q ⟨⟩ e ∧ wN C y Q ⟨⟩ e) := _root_.id rfl
@[simp] theorem cdW_bool {x y u b} : cdW C x y Q u e (.bool b) = brB b (wN C x Q ⟨⟩ e) (wN C y Q ⟨⟩ e) ⟨⟩ := _root_.id rfl
@[simp] theorem wN_cond {c x y u} : wN C (.cond c x y) Q u e = cdW C x y Q ⟨⟩ e (vd (look e) c) := _root_.id rfl
@[simp] theorem wN_block {id c u} : wN C (.block id c) Q u e = wN C c (blockK id Q) ⟨⟩ e := _root_.id rfl
@[simp] theorem wN_loop {c u} : wN C (.loop c) Q u e = loopW C c Q ⟨⟩ e := _root_.id rfl
@[simp] theorem wN_exit {id u} : wN C (.exit id) Q u e = endW Q ⟨⟩ (.ext id) e := _root_.id rfl
@[simp] theorem wN_ret {u} : wN C .ret Q u e = endW Q ⟨⟩ .ret e := _root_.id rfl
@[simp] theorem endW_seq_nrm {y u} : endW (seqK C y Q) u .nrm e = wN C y Q ⟨⟩ e := _root_.id rfl
@[simp] theorem endW_seq_ext {y u i} : endW (seqK C y Q) u (.ext i) e = endW Q ⟨⟩ (.ext i) e := _root_.id rfl
@[simp] theorem endW_seq_ret {y u} : endW (seqK C y Q) u .ret e = endW Q ⟨⟩ .ret e := _root_.id rfl
@[simp] theorem endW_block_nrm {id u} : endW (blockK id Q) u .nrm e = endW Q ⟨⟩ .nrm e := _root_.id rfl
@[simp] theorem endW_block_ext {id u i} : endW (blockK id Q) u (.ext i) e = if i = id then endW Q ⟨⟩ .nrm e else endW Q ⟨⟩ (.ext i) e := _root_.id rfl
@[simp] theorem endW_block_ret {id u} : endW (blockK id Q) u .ret e = endW Q ⟨⟩ .ret e := _root_.id rfl
@[simp] theorem endW_fin_nrm {r u} : endW (fin r d) u .nrm e = retOk r d e := by simp [endW, fin]
@[simp] theorem endW_fin_ret {r u} : endW (fin r d) u .ret e = retOk r d e := by simp [endW, fin]
@[simp] theorem endW_finG_nrm {r d} {u : Tag (finG r d)} : endW (finG r d) u .nrm e = retNew r d e := by simp [endW, finG]
@[simp] theorem endW_finG_ret {r d} {u : Tag (finG r d)} : endW (finG r d) u .ret e = retNew r d e := by simp [endW, finG]
@[simp] theorem endW_finF_nrm {r sz es} {u : Tag (finF r sz es)} : endW (finF r sz es) u .nrm e = retOwn r sz es e := by simp [endW, finF]
@[simp] theorem endW_finF_ret {r sz es} {u : Tag (finF r sz es)} : endW (finF r sz es) u .ret e = retOwn r sz es e := by simp [endW, finF]
@[simp] theorem endW_finL_nrm {r d sz es} {u : Tag (finL r d sz es)} : endW (finL r d sz es) u .nrm e = ((0 < es.length ∧ look e 10015 = .blk sz es) ∧ retOk r d ((10015, .any) :: e)) := by simp [endW, finL]
@[simp] theorem endW_finL_ret {r d sz es} {u : Tag (finL r d sz es)} : endW (finL r d sz es) u .ret e = ((0 < es.length ∧ look e 10015 = .blk sz es) ∧ retOk r d ((10015, .any) :: e)) := by simp [endW, finL]
@[simp] theorem endW_finI_nrm {r sz es} {u : Tag (finI r sz es)} : endW (finI r sz es) u .nrm e = retRow r sz es e := by simp [endW, finI]
@[simp] theorem endW_finI_ret {r sz es} {u : Tag (finI r sz es)} : endW (finI r sz es) u .ret e = retRow r sz es e := by simp [endW, finI]
@[simp] theorem endW_finA_nrm {r d} {u : Tag (finA r d)} : endW (finA r d) u .nrm e = retA r d e := by simp [endW, finA]
@[simp] theorem endW_finA_ret {r d} {u : Tag (finA r d)} : endW (finA r d) u .ret e = retA r d e := by simp [endW, finA]
@[simp] theorem endW_round_nrm {S G I m s u} : endW (roundK S G I m s Q) u .nrm e = ∃ s', I s' ∧ m s' < m s ∧ Weak e (G s') := _root_.id rfl
@[simp] theorem endW_round_ext {S G I m s u i} : endW (roundK S G I m s Q) u (.ext i) e = endW Q ⟨⟩ (.ext i) e := _root_.id rfl
@[simp] theorem endW_round_ret {S G I m s u} : endW (roundK S G I m s Q) u .ret e = endW Q ⟨⟩ .ret e := _root_.id rfl
end
section
variable {C : CC} {Q : NExit → Env → Prop} {e : Env} {K : Env → Prop} {dst : Option Nat} {d : D} {hs : Option (List Nat)} {ns : List NOper} {R : List Nat} {acc : List (List Nat × List Nat)} {u : Tag (hs, K, ns)}
@[simp] theorem opsW_nil {keep u} : opsW C (regK keep Q) [] u e = endW Q ⟨⟩ .nrm (prune keep e) := _root_.id rfl
@[simp] theorem opsD_nil {h keep u} : opsD C h (regK keep Q) [] u e acc = (indW h acc ∧ endW Q ⟨⟩ .nrm (prune keep e)) := _root_.id rfl
@[simp] theorem opsW_none {dst op ns u} : opsW C K (⟨dst, op, none⟩ :: ns) u e = opW C none K ns dst op ⟨⟩ e [] [] := _root_.id rfl
@[simp] theorem opsD_none {h dst op ns u} : opsD C h K (⟨dst, op, none⟩ :: ns) u e acc = (chk (look e) ⟨dst, op, none⟩ = true ∧ opW C (some h) K ns dst op ⟨⟩ e (encR (look e) ⟨dst, op, none⟩) acc) := _root_.id rfl
def skipD (C : CC) (h : List Nat) (K : Env → Prop) (ns : List NOper) (_ : Tag (h, K, ns)) (e : Env) (dst : Option Nat) (R : List Nat) (acc : List (List Nat × List Nat)) : Prop := skipE e dst fun e' => wpNd C h K ns e' ((R, dstL dst) :: acc)
@[simp] theorem skipD_some {h t ns u} : skipD C h K ns u e (some t) R acc = opsD C h K ns ⟨⟩ ((t, .tup []) :: e) ((R, [4 * t]) :: acc) := _root_.id rfl
@[simp] theorem skipD_none {h ns u} : skipD C h K ns u e none R acc = opsD C h K ns ⟨⟩ e ((R, []) :: acc) := _root_.id rfl
def gdT (C : CC) (K : Env → Prop) (ns : List NOper) (dst : Option Nat) (op : NOp) (s : Nat) (want : Bool) (_ : Tag (K, ns)) (e : Env) (d : D) : Prop := match d with
  | .bool b => (b = want → opW C none K ns dst op ⟨⟩ ((s, .bool want) :: e) [] []) ∧ (b = !want → dW C none K ns dst ⟨⟩ ((s, .bool !want) :: e) [] [] (.tup []))
  | .tup [] => dW C none K ns dst ⟨⟩ e [] [] (.tup [])
  | _ => False
@[simp] theorem gdT_true {op s b u} : gdT C K ns dst op s true u e (.bool b) = brB b (opW C none K ns dst op ⟨⟩ ((s, .bool true) :: e) [] []) (dW C none K ns dst ⟨⟩ ((s, .bool false) :: e) [] [] (.tup [])) ⟨⟩ := _root_.id rfl
@[simp] theorem gdT_false {op s b u} : gdT C K ns dst op s false u e (.bool b) = brB b (dW C none K ns dst ⟨⟩ ((s, .bool true) :: e) [] [] (.tup [])) (opW C none K ns dst op ⟨⟩ ((s, .bool false) :: e) [] []) ⟨⟩ := by
  simp only [gdT, brB, Bool.not_false]; exact propext ⟨fun h => ⟨h.2, h.1⟩, fun h => ⟨h.2, h.1⟩⟩
@[simp] theorem gdT_skip {op s want u} : gdT C K ns dst op s want u e (.tup []) = dW C none K ns dst ⟨⟩ e [] [] (.tup []) := _root_.id rfl
@[simp] theorem opsW_some {dst op s want ns u} : opsW C K (⟨dst, op, some (s, want)⟩ :: ns) u e = gdT C K ns dst op s want ⟨⟩ e (look e s) := by
  simp only [opsW, wpNs, opW, wpOp1, skipE, gdT, dW, dstK, kOf, contT, killE]
  cases look e s <;> cases dst <;> (first | rfl | (rename_i x _ ; cases x <;> rfl) | (rename_i x; cases x <;> rfl))
def gdD (C : CC) (h : List Nat) (K : Env → Prop) (ns : List NOper) (dst : Option Nat) (op : NOp) (want : Bool) (_ : Tag (K, ns)) (e : Env) (R : List Nat) (acc : List (List Nat × List Nat)) (d : D) : Prop := match d with
  | .bool b => (b = want → opW C (some h) K ns dst op ⟨⟩ e R acc) ∧ (b = !want → skipD C h K ns ⟨⟩ e dst R acc)
  | .tup [] => skipD C h K ns ⟨⟩ e dst R acc
  | _ => False
@[simp] theorem gdD_true {h op b u} : gdD C h K ns dst op true u e R acc (.bool b) = brB b (opW C (some h) K ns dst op ⟨⟩ e R acc) (skipD C h K ns ⟨⟩ e dst R acc) ⟨⟩ := _root_.id rfl
@[simp] theorem gdD_false {h op b u} : gdD C h K ns dst op false u e R acc (.bool b) = brB b (skipD C h K ns ⟨⟩ e dst R acc) (opW C (some h) K ns dst op ⟨⟩ e R acc) ⟨⟩ := by
  simp only [gdD, brB, Bool.not_false]; exact propext ⟨fun h => ⟨h.2, h.1⟩, fun h => ⟨h.2, h.1⟩⟩
@[simp] theorem gdD_skip {h op want u} : gdD C h K ns dst op want u e R acc (.tup []) = skipD C h K ns ⟨⟩ e dst R acc := _root_.id rfl
@[simp] theorem opsD_some {h dst op s want ns u} : opsD C h K (⟨dst, op, some (s, want)⟩ :: ns) u e acc = (chk (look e) ⟨dst, op, some (s, want)⟩ = true ∧ gdD C h K ns dst op want ⟨⟩ e (encR (look e) ⟨dst, op, some (s, want)⟩) acc (look e s)) := _root_.id rfl
@[simp] theorem doW_text {K ns u ws ks} : doW C none K ns u e R acc ws ks = opsW C K ns ⟨⟩ (ws ++ killE ks e) := _root_.id rfl
@[simp] theorem doW_draw {h K ns u ws ks} : doW C (some h) K ns u e R acc ws ks = (wOk R ws ks = true ∧ opsD C h K ns ⟨⟩ (ws ++ killE ks e) ((R, wrK ws ks) :: acc)) := _root_.id rfl
@[simp] theorem dW_some {t} : dW C hs K ns (some t) u e R acc d = doW C hs K ns ⟨⟩ e R acc [(t, d)] [] := _root_.id rfl
@[simp] theorem dW_none : dW C hs K ns none u e R acc d = doW C hs K ns ⟨⟩ e R acc [] [] := _root_.id rfl
def kill1 (ks : List (Nat × Bool)) (d : D) : D := if mentL ks d then .any else d
theorem kill1_eq (ks : List (Nat × Bool)) (d : D) : kill1 ks d = bif mentL ks d then .any else d := by
  unfold kill1; cases mentL ks d <;> rfl
@[simp] theorem killE_nil : killE [] e = e := _root_.id rfl
@[simp] theorem killE_emp {k ks} : killE (k :: ks) [] = [] := _root_.id rfl
@[simp] theorem killE_cons {k ks s d} : killE (k :: ks) ((s, d) :: e) = (s, kill1 (k :: ks) d) :: killE (k :: ks) e := _root_.id rfl
@[simp] theorem kill1_any {ks} : kill1 ks .any = .any := by simp [kill1]
@[simp] theorem kill1_int {ks k n} : kill1 ks (.int k n) = .int k n := by simp [kill1, mentL, ment, ment1]
@[simp] theorem kill1_bool {ks n} : kill1 ks (.bool n) = .bool n := by simp [kill1, mentL, ment, ment1]
@[simp] theorem kill1_str {ks n} : kill1 ks (.str n) = .str n := by simp [kill1, mentL, ment, ment1]
@[simp] theorem kill1_bb {ks} : kill1 ks .bb = .bb := by simp [kill1, mentL, ment, ment1]
@[simp] theorem kill1_nilp {ks} : kill1 ks .nilp = .nilp := by simp [kill1, mentL, ment, ment1]
@[simp] theorem kill1_nils {ks} : kill1 ks .nils = .nils := by simp [kill1, mentL, ment, ment1]
@[simp] theorem kill1_agg {ks n} : kill1 ks (.agg n) = .agg n := by simp [kill1, mentL, ment, ment1]
@[simp] theorem kill1_tup {ks n} : kill1 ks (.tup n) = .tup n := by simp [kill1, mentL, ment, ment1]
@[simp] theorem kill1_sl {ks n} : kill1 ks (.sl n) = .sl n := by simp [kill1, mentL, ment, ment1]
@[simp] theorem kill1_ptr {ks n} : kill1 ks (.ptr n) = .ptr n := by simp [kill1, mentL, ment, ment1]
@[simp] theorem kill1_fn {ks g n} : kill1 ks (.fn g n) = .fn g n := by simp [kill1, mentL, ment, ment1]
@[simp] theorem kill1_blk {ks g n} : kill1 ks (.blk g n) = .blk g n := by simp [kill1, mentL, ment, ment1]
@[simp] theorem kill1_mp {ks kt et xs vs} : kill1 ks (.mp kt et xs vs) = .mp kt et xs vs := by simp [kill1, mentL, ment, ment1]
@[simp] theorem kill1_ref {b all ks p k n} : kill1 ((b, all) :: ks) (.ref p k n) = if mentP b all p then .any else kill1 ks (.ref p k n) := by
  have h : kill1 ((b, all) :: ks) (.ref p k n) = bif (mentP b all p || mentL ks (.ref p k n)) then .any else .ref p k n := kill1_eq ..
  rw [h, kill1_eq]
  cases mentP b all p <;> rfl
@[simp] theorem kill1_adr {b all ks p k n} : kill1 ((b, all) :: ks) (.adr p k n) = if mentP b all p then .any else kill1 ks (.adr p k n) := by
  have h : kill1 ((b, all) :: ks) (.adr p k n) = bif (mentP b all p || mentL ks (.adr p k n)) then .any else .adr p k n := kill1_eq ..
  rw [h, kill1_eq]
  cases mentP b all p <;> rfl
@[simp] theorem kill1_agx {b all ks n} : kill1 ((b, all) :: ks) (.agx n) = if n.any (ment1 b all) then .any else kill1 ks (.agx n) := by
  have h : kill1 ((b, all) :: ks) (.agx n) = bif (n.any (ment1 b all) || mentL ks (.agx n)) then .any else .agx n := kill1_eq ..
  rw [h, kill1_eq]
  cases n.any (ment1 b all) <;> rfl
@[simp] theorem kill1_fnx {b all ks g n} : kill1 ((b, all) :: ks) (.fnx g n) = if n.any (ment1 b all) then .any else kill1 ks (.fnx g n) := by
  have h : kill1 ((b, all) :: ks) (.fnx g n) = bif (n.any (ment1 b all) || mentL ks (.fnx g n)) then .any else .fnx g n := kill1_eq ..
  rw [h, kill1_eq]
  cases n.any (ment1 b all) <;> rfl
@[simp] theorem kill1_nil {d} : kill1 [] d = d := by simp [kill1, mentL]
@[simp] theorem kill1_slx {ks b es} : kill1 ks (slx b es) = slx b es := by cases b <;> cases es <;> simp [slx]
def idxW (C : CC) (hs : Option (List Nat)) (K : Env → Prop) (ns : List NOper) (dst : Option Nat) (_ : Tag (hs, K, ns)) (e : Env) (R : List Nat) (acc : List (List Nat × List Nat)) (sz : Nat) (es : List (List D)) (i : Nat) : Prop :=
  ∃ c, es[i]? = some c ∧ c.length = sz ∧ dstK dst (kOf C hs K ns e R acc) (.ptr c)
@[simp] theorem idxW_map {α : Type} [Inhabited α] {sz : Nat} {xs : List α} {f : α → List D} {i : Nat} : idxW C hs K ns dst u e R acc sz (xs.map f) i = (i < xs.length ∧ (f xs[i]!).length = sz ∧ dW C hs K ns dst ⟨⟩ e R acc (.ptr (f xs[i]!))) := by
  apply propext
  unfold idxW dW
  constructor
  · rintro ⟨c, h, h1, h2⟩
    rw [List.getElem?_map, Option.map_eq_some_iff] at h
    obtain ⟨x, hx, rfl⟩ := h
    obtain ⟨hi, rfl⟩ := List.getElem?_eq_some_iff.1 hx
    rw [getElem!_pos xs i hi]
    exact ⟨hi, h1, h2⟩
  · rintro ⟨hi, h1, h2⟩
    rw [getElem!_pos xs i hi] at h1 h2
    exact ⟨_, by rw [List.getElem?_map, List.getElem?_eq_getElem hi]; rfl, h1, h2⟩
def bytW (C : CC) (hs : Option (List Nat)) (K : Env → Prop) (ns : List NOper) (dst : Option Nat) (_ : Tag (hs, K, ns)) (e : Env) (R : List Nat) (acc : List (List Nat × List Nat)) (s : List UInt8) (i : Nat) : Prop :=
  ∃ b, s[i]? = some b ∧ dstK dst (kOf C hs K ns e R acc) (.int .u8 b.toNat)
@[simp] theorem bytW_eq {s : List UInt8} {i : Nat} : bytW C hs K ns dst u e R acc s i = (i < s.length ∧ dW C hs K ns dst ⟨⟩ e R acc (.int .u8 (s[i]!).toNat)) := by
  apply propext
  unfold bytW dW
  constructor
  · rintro ⟨b, h, h2⟩
    obtain ⟨hi, rfl⟩ := List.getElem?_eq_some_iff.1 h
    rw [getElem!_pos s i hi]
    exact ⟨hi, h2⟩
  · rintro ⟨hi, h2⟩
    rw [getElem!_pos s i hi] at h2
    exact ⟨_, List.getElem?_eq_getElem hi, h2⟩
def rowW (C : CC) (hs : Option (List Nat)) (K : Env → Prop) (ns : List NOper) (dst : Option Nat) (_ : Tag (hs, K, ns)) (e : Env) (R : List Nat) (acc : List (List Nat × List Nat)) (n : Nat) (ag : Bool) (p : Pa) (es : List (List D)) (i off : Nat) : Prop :=
  ∃ r, es[i]? = some r ∧ off + n ≤ r.length ∧ match ag with
        | true => (((r.drop off).take n).all isV = true → dstK dst (kOf C hs K ns e R acc) (.agg ((r.drop off).take n))) ∧
            (((r.drop off).take n).all isV = false → dstK dst (kOf C hs K ns e R acc) (.agx (((r.drop off).take n).mapIdx fun j c => ldc p i (off + j) c)))
        | false => dstK dst (kOf C hs K ns e R acc) (ldc p i off ((r.drop off).headD .any))
theorem rowW_of {n : Nat} {ag : Bool} {p : Pa} {es : List (List D)} {i off : Nat} {r : List D} (hr : es[i]? = some r) (hl : off + n ≤ r.length) (hk : match ag with
        | true => (((r.drop off).take n).all isV = true → dW C hs K ns dst ⟨⟩ e R acc (.agg ((r.drop off).take n))) ∧
            (((r.drop off).take n).all isV = false → dW C hs K ns dst ⟨⟩ e R acc (.agx (((r.drop off).take n).mapIdx fun j c => ldc p i (off + j) c)))
        | false => dW C hs K ns dst ⟨⟩ e R acc (ldc p i off ((r.drop off).headD .any))) : rowW C hs K ns dst u e R acc n ag p es i off := by
  refine ⟨r, hr, hl, ?_⟩
  cases ag <;> exact hk
@[simp] theorem rowW_one {n : Nat} {ag : Bool} {p : Pa} {r : List D} {off : Nat} : rowW C hs K ns dst u e R acc n ag p [r] 0 off = (off + n ≤ r.length ∧ match ag with
        | true => (((r.drop off).take n).all isV = true → dW C hs K ns dst ⟨⟩ e R acc (.agg ((r.drop off).take n))) ∧
            (((r.drop off).take n).all isV = false → dW C hs K ns dst ⟨⟩ e R acc (.agx (((r.drop off).take n).mapIdx fun j c => ldc p 0 (off + j) c)))
        | false => dW C hs K ns dst ⟨⟩ e R acc (ldc p 0 off ((r.drop off).headD .any))) := by
  apply propext
  constructor
  · rintro ⟨r', h1, h2, h3⟩
    simp at h1; subst h1
    refine ⟨h2, ?_⟩
    cases ag <;> exact h3
  · rintro ⟨h2, h3⟩
    refine ⟨r, rfl, h2, ?_⟩
    cases ag <;> exact h3
end
section
variable {C : CC} {Q : NExit → Env → Prop} {e : Env} {K : Env → Prop} {dst : Option Nat} {hs : Option (List Nat)} {ns : List NOper} {R : List Nat} {acc : List (List Nat × List Nat)} {u : Tag (hs, K, ns)}
@[simp] theorem opW_mov {x v1} : opW C hs K ns dst (.mov x) v1 e R acc = (isS (vd (look e) x) = true ∧ dW C hs K ns dst ⟨⟩ e R acc (vd (look e) x)) := _root_.id rfl
@[simp] theorem opW_nck {x v1} : opW C hs K ns dst (.nck x) v1 e R acc = (match (generalizing := false) vd (look e) x with
    | .ptr ds => dW C hs K ns dst ⟨⟩ e R acc (.ptr ds)
    | .adr p i off => dW C hs K ns dst ⟨⟩ e R acc (.adr p i off)
    | .ptx ds => dW C hs K ns dst ⟨⟩ e R acc (.ptx ds)
    | _ => False) := _root_.id rfl
@[simp] theorem opW_pick {c a b v1} : opW C hs K ns dst (.pick c a b) v1 e R acc = (match (generalizing := false) vd (look e) c with
    | .bool v => (v = true → isS (vd (look e) a) = true ∧ dW C hs K ns dst ⟨⟩ e R acc (vd (look e) a)) ∧ (v = false → isS (vd (look e) b) = true ∧ dW C hs K ns dst ⟨⟩ e R acc (vd (look e) b))
    | _ => False) := _root_.id rfl
@[simp] theorem opW_bin {op x y v1} : opW C hs K ns dst (.bin op x y) v1 e R acc = (match (generalizing := false) vd (look e) x, vd (look e) y with
    | .int k a, .int k' b => match (generalizing := false) op with
      | .add => k = k' ∧ dW C hs K ns dst ⟨⟩ e R acc (.int k (k.wrap (a + b)))
      | .sub => k = k' ∧ dW C hs K ns dst ⟨⟩ e R acc (.int k (k.wrap (a - b)))
      | .mul => k = k' ∧ dW C hs K ns dst ⟨⟩ e R acc (.int k (k.wrap (a * b)))
      | .quo => k = k' ∧ b ≠ 0 ∧ dW C hs K ns dst ⟨⟩ e R acc (.int k (k.wrap (a.tdiv b)))
      | .rem => k = k' ∧ b ≠ 0 ∧ dW C hs K ns dst ⟨⟩ e R acc (.int k (a.tmod b))
      | .and => k = k' ∧ dW C hs K ns dst ⟨⟩ e R acc (.int k (bits .and k a b))
      | .or => k = k' ∧ dW C hs K ns dst ⟨⟩ e R acc (.int k (bits .or k a b))
      | .xor => k = k' ∧ dW C hs K ns dst ⟨⟩ e R acc (.int k (bits .xor k a b))
      | .andNot => k = k' ∧ dW C hs K ns dst ⟨⟩ e R acc (.int k (bits .andNot k a b))
      | .shl => 0 ≤ b ∧ dW C hs K ns dst ⟨⟩ e R acc (.int k (k.wrap (a * 2 ^ (min b.toNat k.bits))))
      | .shr => 0 ≤ b ∧ dW C hs K ns dst ⟨⟩ e R acc (.int k (a.fdiv (2 ^ (min b.toNat k.bits))))
      | .eql => k = k' ∧ dW C hs K ns dst ⟨⟩ e R acc (.bool (decide (a = b)))
      | .neq => k = k' ∧ dW C hs K ns dst ⟨⟩ e R acc (.bool (!decide (a = b)))
      | .lss => k = k' ∧ dW C hs K ns dst ⟨⟩ e R acc (.bool (decide (a < b)))
      | .leq => k = k' ∧ dW C hs K ns dst ⟨⟩ e R acc (.bool (decide (a ≤ b)))
      | .gtr => k = k' ∧ dW C hs K ns dst ⟨⟩ e R acc (.bool (decide (b < a)))
      | .geq => k = k' ∧ dW C hs K ns dst ⟨⟩ e R acc (.bool (decide (b ≤ a)))
    | .str a, .str b => match (generalizing := false) op with
      | .eql => dW C hs K ns dst ⟨⟩ e R acc (.bool (decide (a = b)))
      | .neq => dW C hs K ns dst ⟨⟩ e R acc (.bool (!decide (a = b)))
      | .add => ((a ++ b).length : Int) ≤ 9223372036854775807 ∧ dW C hs K ns dst ⟨⟩ e R acc (.str (a ++ b))
      | .lss => dW C hs K ns dst ⟨⟩ e R acc (.bool (Op.bytesLess a b))
      | .leq => dW C hs K ns dst ⟨⟩ e R acc (.bool (Op.bytesLess a b || a == b))
      | .gtr => dW C hs K ns dst ⟨⟩ e R acc (.bool !(Op.bytesLess a b || a == b))
      | .geq => dW C hs K ns dst ⟨⟩ e R acc (.bool !(Op.bytesLess a b))
      | _ => False
    | _, _ => False) := _root_.id rfl
@[simp] theorem opW_un {op x v1} : opW C hs K ns dst (.un op x) v1 e R acc = (match (generalizing := false) vd (look e) x with
    | .bool b => match (generalizing := false) op with
      | .not => dW C hs K ns dst ⟨⟩ e R acc (.bool (!b))
      | _ => False
    | .int k n => match (generalizing := false) op with
      | .neg => dW C hs K ns dst ⟨⟩ e R acc (.int k (k.wrap (0 - n)))
      | _ => False
    | _ => False) := _root_.id rfl
@[simp] theorem opW_conv {k x v1} : opW C hs K ns dst (.conv k x) v1 e R acc = (match (generalizing := false) vd (look e) x with
    | .int _ n => dW C hs K ns dst ⟨⟩ e R acc (.int k (k.wrap n))
    | _ => False) := _root_.id rfl
@[simp] theorem opW_beq {neg ks x y v1} : opW C hs K ns dst (.beq neg ks x y) v1 e R acc = (match (generalizing := false) vd (look e) x, vd (look e) y with
    | .bool a, .bool b => ks = [] ∧ dW C hs K ns dst ⟨⟩ e R acc (.bool ((a == b) != neg))
    | .agg a, .agg b => ks ≠ [] ∧ match (generalizing := false) flatEq ks a b with
      | some r => dW C hs K ns dst ⟨⟩ e R acc (.bool (r != neg))
      | none => False
    | .nils, .nils => ks = [9] ∧ dW C hs K ns dst ⟨⟩ e R acc (.bool (!neg))
    | .sl es, .nils => ks = [9] ∧ (0 < es.length → dW C hs K ns dst ⟨⟩ e R acc (.bool neg)) ∧ (es.length = 0 → dW C hs K ns dst ⟨⟩ e R acc .bb)
    | .nilp, .nilp => ks = [8] ∧ dW C hs K ns dst ⟨⟩ e R acc (.bool (!neg))
    | .ptr _, .nilp => ks = [8] ∧ dW C hs K ns dst ⟨⟩ e R acc (.bool neg)
    | _, _ => False) := _root_.id rfl
@[simp] theorem opW_fld {off n ag x v1} : opW C hs K ns dst (.fld off n ag x) v1 e R acc = (match (generalizing := false) vd (look e) x with
    | .agg ds => off + n ≤ ds.length ∧ dW C hs K ns dst ⟨⟩ e R acc (pack ag n (ds.drop off))
    | .agx ds => off + n ≤ ds.length ∧ match (generalizing := false) ag with
      | true => dW C hs K ns dst ⟨⟩ e R acc (.agx ((ds.drop off).take n))
      | false => dW C hs K ns dst ⟨⟩ e R acc ((ds.drop off).headD .any)
    | _ => False) := _root_.id rfl
@[simp] theorem opW_idxA {len sz ag x i v1} : opW C hs K ns dst (.idxA len sz ag x i) v1 e R acc = (match (generalizing := false) vd (look e) x, vd (look e) i with
    | .agg ds, .int _ j => 0 ≤ j ∧ j < len ∧ j.toNat * sz + sz ≤ ds.length ∧ dW C hs K ns dst ⟨⟩ e R acc (pack ag sz (ds.drop (j.toNat * sz)))
    | .agx ds, .int _ j => 0 ≤ j ∧ j < len ∧ j.toNat * sz + sz ≤ ds.length ∧ match (generalizing := false) ag with
      | true => dW C hs K ns dst ⟨⟩ e R acc (.agx ((ds.drop (j.toNat * sz)).take sz))
      | false => dW C hs K ns dst ⟨⟩ e R acc ((ds.drop (j.toNat * sz)).headD .any)
    | _, _ => False) := _root_.id rfl
@[simp] theorem opW_slA {len sz x v1} : opW C hs K ns dst (.slA len sz x) v1 e R acc = (match (generalizing := false) vd (look e) x with
    | .ptr ds => 0 < len ∧ 0 < sz ∧ len * sz ≤ ds.length ∧ dW C hs K ns dst ⟨⟩ e R acc (.sl (chunks sz len ds))
    | _ => False) := _root_.id rfl
@[simp] theorem opW_cvS {x v1} : opW C hs K ns dst (.cvS x) v1 e R acc = (match (generalizing := false) vd (look e) x with
    | .sl es => 0 < es.length ∧ (∀ r ∈ es, ∃ n : Nat, r = [.int .u8 n] ∧ n < 256) ∧ dW C hs K ns dst ⟨⟩ e R acc (.str (es.map byteOf))
    | _ => False) := _root_.id rfl
@[simp] theorem opW_idxS {x i v1} : opW C hs K ns dst (.idxS x i) v1 e R acc = (match (generalizing := false) vd (look e) x, vd (look e) i with
    | .str s, .int _ j => 0 ≤ j ∧ bytW C hs K ns dst ⟨⟩ e R acc s j.toNat
    | _, _ => False) := _root_.id rfl
@[simp] theorem opW_ext {i x v1} : opW C hs K ns dst (.ext i x) v1 e R acc = (match (generalizing := false) vd (look e) x with
    | .tup ds => ∃ d, ds[i]? = some d ∧ dW C hs K ns dst ⟨⟩ e R acc d
    | .tpx ds => ∃ d, ds[i]? = some d ∧ dW C hs K ns dst ⟨⟩ e R acc d
    | _ => False) := _root_.id rfl
@[simp] theorem opW_fad {off x v1} : opW C hs K ns dst (.fad off x) v1 e R acc = (match (generalizing := false) vd (look e) x with
    | .adr p i o => dW C hs K ns dst ⟨⟩ e R acc (.adr p i (o + off))
    | .ptr ds => dW C hs K ns dst ⟨⟩ e R acc (.ptr (ds.drop off))
    | .ptx ds => dW C hs K ns dst ⟨⟩ e R acc (.ptx (ds.drop off))
    | _ => False) := _root_.id rfl
@[simp] theorem opW_iadA {len sz x i v1} : opW C hs K ns dst (.iadA len sz x i) v1 e R acc = (match (generalizing := false) vd (look e) x, vd (look e) i with
    | .adr p r o, .int _ j => 0 ≤ j ∧ j < len ∧ dW C hs K ns dst ⟨⟩ e R acc (.adr p r (o + j.toNat * sz))
    | .ptr ds, .int _ j => 0 ≤ j ∧ j < len ∧ dW C hs K ns dst ⟨⟩ e R acc (.ptr (ds.drop (j.toNat * sz)))
    | _, _ => False) := _root_.id rfl
@[simp] theorem opW_ld {n ag x v1} : opW C hs K ns dst (.ld n ag x) v1 e R acc = (match (generalizing := false) vd (look e) x with
    | .adr p i off => match (generalizing := false) getP (look e) p with
      | some (_, es) => rowW C hs K ns dst ⟨⟩ e R acc n ag p es i off
      | none => False
    | .ptr ds => n ≤ ds.length ∧ dW C hs K ns dst ⟨⟩ e R acc (pack ag n ds)
    | .ptx ds => n ≤ ds.length ∧ match (generalizing := false) ag with
      | true => ((ds.take n).all isV = true → dW C hs K ns dst ⟨⟩ e R acc (.agg (ds.take n))) ∧ ((ds.take n).all isV = false → dW C hs K ns dst ⟨⟩ e R acc (.agx (ds.take n)))
      | false => 0 < n ∧ dW C hs K ns dst ⟨⟩ e R acc (ds.headD .any)
    | _ => False) := _root_.id rfl
@[simp] theorem opW_bld {zs parts v1} : opW C hs K ns dst (.bld zs parts) v1 e R acc = ((∀ p ∈ parts, isS (vd (look e) p.2.2) = true ∧ p.1 + p.2.1 ≤ zs.length ∧ match (generalizing := false) vd (look e) p.2.2 with
        | .agg ds => ds.length = p.2.1
        | .agx ds => ds.length = p.2.1
        | .any => False
        | .tpx _ => False
        | .ptx _ => False
        | .rfx _ _ _ => False
        | .fnx _ _ => False
        | _ => p.2.1 = 1) ∧
      ((parts.all fun p => isV (vd (look e) p.2.2)) = true → dW C hs K ns dst ⟨⟩ e R acc (.agg (fillD zs (parts.map fun p => (p.1, p.2.1, vd (look e) p.2.2))))) ∧
      ((parts.all fun p => isV (vd (look e) p.2.2)) = false → dW C hs K ns dst ⟨⟩ e R acc (.agx (fillD zs (parts.map fun p => (p.1, p.2.1, aggOf (vd (look e) p.2.2))))))) := _root_.id rfl
@[simp] theorem opW_lens {x v1} : opW C hs K ns dst (.lens x) v1 e R acc = (match (generalizing := false) vd (look e) x with
    | .str s => dW C hs K ns dst ⟨⟩ e R acc (.int .i64 s.length)
    | _ => False) := _root_.id rfl
@[simp] theorem opW_mk {g xs v1} : opW C hs K ns dst (.mk g xs) v1 e R acc = ((∀ x ∈ xs, isP (vd (look e) x) = true) ∧ ((xs.all fun x => isV (vd (look e) x)) = true → dW C hs K ns dst ⟨⟩ e R acc (.fn g (xs.map (vd (look e))))) ∧ ((xs.all fun x => isV (vd (look e) x)) = false → dW C hs K ns dst ⟨⟩ e R acc (.fnx g (xs.map (vd (look e)))))) := _root_.id rfl
@[simp] theorem opW_slS {x lo hi v1} : opW C hs K ns dst (.slS x lo hi) v1 e R acc = (match (generalizing := false) vd (look e) x with
    | .str s => boundT (look e) hi s.length (fun h => boundT (look e) lo 0 (fun l => l ≤ h ∧ h ≤ s.length ∧ dW C hs K ns dst ⟨⟩ e R acc (.str ((s.take h).drop l))) ⟨⟩) ⟨⟩
    | _ => False) := _root_.id rfl
@[simp] theorem opW_mn {x y v1} : opW C hs K ns dst (.mn x y) v1 e R acc = (match (generalizing := false) vd (look e) x, vd (look e) y with
    | .int k a, .int k' b => k = k' ∧ dW C hs K ns dst ⟨⟩ e R acc (.int k (if b < a then b else a))
    | _, _ => False) := _root_.id rfl
@[simp] theorem opW_mx {x y v1} : opW C hs K ns dst (.mx x y) v1 e R acc = (match (generalizing := false) vd (look e) x, vd (look e) y with
    | .int k a, .int k' b => k = k' ∧ dW C hs K ns dst ⟨⟩ e R acc (.int k (if a < b then b else a))
    | _, _ => False) := _root_.id rfl
@[simp] theorem opW_add64 {x y c v1} : opW C hs K ns dst (.add64 x y c) v1 e R acc = (match (generalizing := false) vd (look e) x, vd (look e) y, vd (look e) c with
    | .int .u64 a, .int .u64 b, .int .u64 k => 0 ≤ a ∧ a < 18446744073709551616 ∧ 0 ≤ b ∧ b < 18446744073709551616 ∧ 0 ≤ k ∧ k ≤ 1 ∧
        dW C hs K ns dst ⟨⟩ e R acc (.tup [.int .u64 ((a + b + k) % 18446744073709551616), .int .u64 ((a + b + k) / 18446744073709551616)])
    | _, _, _ => False) := _root_.id rfl
@[simp] theorem opW_sub64 {x y c v1} : opW C hs K ns dst (.sub64 x y c) v1 e R acc = (match (generalizing := false) vd (look e) x, vd (look e) y, vd (look e) c with
    | .int .u64 a, .int .u64 b, .int .u64 k => 0 ≤ a ∧ a < 18446744073709551616 ∧ 0 ≤ b ∧ b < 18446744073709551616 ∧ 0 ≤ k ∧ k ≤ 1 ∧
        dW C hs K ns dst ⟨⟩ e R acc (.tup [.int .u64 ((a - b - k) % 18446744073709551616), .int .u64 (if a < b + k then 1 else 0)])
    | _, _, _ => False) := _root_.id rfl
@[simp] theorem opW_nilo {sz v1} : opW C hs K ns dst (.nilo sz) v1 e R acc = (match (generalizing := false) dst with
    | some t => 0 < sz ∧ doW C hs K ns ⟨⟩ e R acc [(t, .ref (.r (rt t 0)) 0 0), (rt t 0, .blk sz [])] [(rt t 0, true)]
    | none => False) := _root_.id rfl
@[simp] theorem opW_box {x t v1} : opW C hs K ns (some t) (.box [] x) v1 e R acc = absT (look e) (vd (look e) x) [] (fun cs bs => bs.contains (rt t 0) = false ∧ doW C hs K ns ⟨⟩ e R acc ((t, .adr (.r (rt t 0)) 0 0) :: (rt t 0, .blk cs.length [cs]) :: anys bs) [(rt t 0, true)]) ⟨⟩ := _root_.id rfl
@[simp] theorem opW_alc {zs v1} : opW C hs K ns dst (.alc zs) v1 e R acc = (match (generalizing := false) dst with
    | some t => doW C hs K ns ⟨⟩ e R acc [(t, .adr (.r (rt t 0)) 0 0), (rt t 0, .blk zs.length [zs])] [(rt t 0, true)]
    | none => False) := _root_.id rfl
@[simp] theorem opW_bls {sz len zs parts t v1} : opW C hs K ns (some t) (.bls sz len zs [] parts) v1 e R acc = partsT (look e) sz parts (List.replicate len zs) [] (fun es bs => noDupN bs = true ∧ bs.contains (rt t 0) = false ∧ doW C hs K ns ⟨⟩ e R acc ((t, .ref (.r (rt t 0)) 0 len) :: (rt t 0, .blk sz es) :: anys bs) [(rt t 0, true)]) ⟨⟩ := _root_.id rfl
@[simp] theorem opW_mks {sz by_ zs n c v1} : opW C hs K ns dst (.mks sz by_ zs n c) v1 e R acc = (match (generalizing := false) dst with
    | some t => match (generalizing := false) vd (look e) n, vd (look e) c with
      | .int _ n, .int _ c => 0 ≤ n ∧ n ≤ c ∧ c * by_ ≤ 140737488355328 ∧ doW C hs K ns ⟨⟩ e R acc [(t, .ref (.r (rt t 0)) 0 n.toNat), (rt t 0, .blk sz (List.replicate c.toNat zs))] [(rt t 0, true)]
      | _, _ => False
    | none => False) := _root_.id rfl
def stM (C : CC) (hs : Option (List Nat)) (K : Env → Prop) (ns : List NOper) (_ : Tag (hs, K, ns)) (e : Env) (R : List Nat) (acc : List (List Nat × List Nat)) (n : Nat) (v : D) (cs : List D) (bs : List Nat) (a : D) : Prop := match a with
  | .adr (.r b) i off => bs.contains b = false ∧ blkT (look e b) (fun sz es => rowT es[i]? (fun r => off + n ≤ r.length ∧ doW C hs K ns ⟨⟩ e R acc ((b, .blk sz (setC es i off n cs)) :: anys bs) (stK v [] b)) ⟨⟩) ⟨⟩
  | .adr (.n b i0 o0) i off => bs = [] ∧ (∀ c ∈ cs, isC1 c = true) ∧ blkT (look e b) (fun sz0 es0 => rowT es0[i0]? (fun row0 => ownT row0[o0]? (fun sz es => rowT es[i]? (fun r => off + n ≤ r.length ∧ doW C hs K ns ⟨⟩ e R acc [(b, .blk sz0 (setC es0 i0 o0 1 [.own sz (setC es i off n cs)]))] []) ⟨⟩) ⟨⟩) ⟨⟩) ⟨⟩
  | _ => False
@[simp] theorem stM_r {n v cs bs b i off} : stM C hs K ns u e R acc n v cs bs (.adr (.r b) i off) = (bs.contains b = false ∧ blkT (look e b) (fun sz es => rowT es[i]? (fun r => off + n ≤ r.length ∧ doW C hs K ns ⟨⟩ e R acc ((b, .blk sz (setC es i off n cs)) :: anys bs) (stK v [] b)) ⟨⟩) ⟨⟩) := _root_.id rfl
@[simp] theorem stM_n {n v cs bs b i0 o0 i off} : stM C hs K ns u e R acc n v cs bs (.adr (.n b i0 o0) i off) = (bs = [] ∧ (∀ c ∈ cs, isC1 c = true) ∧ blkT (look e b) (fun sz0 es0 => rowT es0[i0]? (fun row0 => ownT row0[o0]? (fun sz es => rowT es[i]? (fun r => off + n ≤ r.length ∧ doW C hs K ns ⟨⟩ e R acc [(b, .blk sz0 (setC es0 i0 o0 1 [.own sz (setC es i off n cs)]))] []) ⟨⟩) ⟨⟩) ⟨⟩) ⟨⟩) := _root_.id rfl
@[simp] theorem opW_st {n a v v1} : opW C hs K ns dst (.st n [] a v) v1 e R acc = (dst = none ∧ absT (look e) (vd (look e) v) [] (fun cs bs => cs.length = n ∧ stM C hs K ns ⟨⟩ e R acc n (vd (look e) v) cs bs (vd (look e) a)) ⟨⟩) := by
  show (dst = none ∧ absW (look e) (vd (look e) v) [] _) = (dst = none ∧ absW (look e) (vd (look e) v) [] _)
  congr 1
  congr 1
  funext cs bs
  cases vd (look e) a <;> try rfl
  rename_i p i off
  cases p with
  | r b =>
    simp only [stM, blkT, rowT_eq]
    cases look e b <;> rfl
  | n b i0 o0 =>
    simp only [stM, blkT, rowT_eq, ownT_eq]
    cases look e b <;> rfl
def appM (C : CC) (hs : Option (List Nat)) (K : Env → Prop) (ns : List NOper) (_ : Tag (hs, K, ns)) (e : Env) (R : List Nat) (acc : List (List Nat × List Nat)) (t sz by_ : Nat) (rowsY : List (List D)) (bs : List Nat) (x : D) : Prop := match x with
  | .nils => rowsY.length * by_ ≤ 140737488355328 ∧ doW C hs K ns ⟨⟩ e R acc ((t, .ref (.r (rt t 0)) 0 rowsY.length) :: (rt t 0, .blk sz rowsY) :: anys bs) [(rt t 0, true)]
  | .ref (.r c) k n => c ≠ rt t 0 ∧ bs.contains c = false ∧ blkT (look e c) (fun sz' es => sz' = sz ∧ k + n ≤ es.length ∧ (n + rowsY.length) * by_ ≤ 140737488355328 ∧
            doW C hs K ns ⟨⟩ e R acc ((t, .ref (.r (rt t 0)) 0 (n + rowsY.length)) :: (rt t 0, .blk sz ((es.drop k).take n ++ rowsY)) :: (c, .any) :: anys bs) [(rt t 0, true)]) ⟨⟩
  | .ref (.n c i o) k n => c ≠ rt t 0 ∧ bs.contains c = false ∧ blkT (look e c) (fun sz0 es0 => rowT es0[i]? (fun row0 => ownT row0[o]? (fun sz' es => sz' = sz ∧ k + n ≤ es.length ∧ (n + rowsY.length) * by_ ≤ 140737488355328 ∧
            doW C hs K ns ⟨⟩ e R acc ((t, .ref (.r (rt t 0)) 0 (n + rowsY.length)) :: (rt t 0, .blk sz ((es.drop k).take n ++ rowsY)) :: (c, .blk sz0 (setC es0 i o 1 [.any])) :: anys bs) [(rt t 0, true)]) ⟨⟩) ⟨⟩) ⟨⟩
  | _ => False
@[simp] theorem appM_nils {t sz by_ rowsY bs} : appM C hs K ns u e R acc t sz by_ rowsY bs .nils = (rowsY.length * by_ ≤ 140737488355328 ∧ doW C hs K ns ⟨⟩ e R acc ((t, .ref (.r (rt t 0)) 0 rowsY.length) :: (rt t 0, .blk sz rowsY) :: anys bs) [(rt t 0, true)]) := _root_.id rfl
@[simp] theorem appM_r {t sz by_ rowsY bs c k n} : appM C hs K ns u e R acc t sz by_ rowsY bs (.ref (.r c) k n) = (c ≠ rt t 0 ∧ bs.contains c = false ∧ blkT (look e c) (fun sz' es => sz' = sz ∧ k + n ≤ es.length ∧ (n + rowsY.length) * by_ ≤ 140737488355328 ∧
            doW C hs K ns ⟨⟩ e R acc ((t, .ref (.r (rt t 0)) 0 (n + rowsY.length)) :: (rt t 0, .blk sz ((es.drop k).take n ++ rowsY)) :: (c, .any) :: anys bs) [(rt t 0, true)]) ⟨⟩) := _root_.id rfl
@[simp] theorem appM_n {t sz by_ rowsY bs c i o k n} : appM C hs K ns u e R acc t sz by_ rowsY bs (.ref (.n c i o) k n) = (c ≠ rt t 0 ∧ bs.contains c = false ∧ blkT (look e c) (fun sz0 es0 => rowT es0[i]? (fun row0 => ownT row0[o]? (fun sz' es => sz' = sz ∧ k + n ≤ es.length ∧ (n + rowsY.length) * by_ ≤ 140737488355328 ∧
            doW C hs K ns ⟨⟩ e R acc ((t, .ref (.r (rt t 0)) 0 (n + rowsY.length)) :: (rt t 0, .blk sz ((es.drop k).take n ++ rowsY)) :: (c, .blk sz0 (setC es0 i o 1 [.any])) :: anys bs) [(rt t 0, true)]) ⟨⟩) ⟨⟩) ⟨⟩) := _root_.id rfl
@[simp] theorem opW_app {sz by_ mv x y t v1} : opW C hs K ns (some t) (.app sz by_ mv x y) v1 e R acc = rowsT (look e) mv (vd (look e) y) sz (fun rowsY bs => bs.contains (rt t 0) = false ∧ appM C hs K ns ⟨⟩ e R acc t sz by_ rowsY bs (vd (look e) x)) ⟨⟩ := by
  unfold opW rowsT
  simp only [resX]
  congr 1
  funext rowsY bs
  congr 1
  cases vd (look e) x <;> try rfl
  rename_i p k n
  cases p with
  | r c =>
    simp only [appM, blkT]
    cases look e c <;> rfl
  | n c i o =>
    simp only [appM, blkT, rowT_eq, ownT_eq]
    cases hl : look e c <;> try rfl
    rename_i sz0 es0
    refine congrArg _ (congrArg _ (propext ⟨?_, ?_⟩))
    · rintro ⟨row0, h1, es, h2, h3⟩
      exact ⟨row0, h1, sz, es, h2, rfl, h3⟩
    · rintro ⟨row0, h1, sz', es, h2, rfl, h3⟩
      exact ⟨row0, h1, es, h2, h3⟩
@[simp] theorem srtB_blk {g b n xs sz es} : srtB C g hs K ns dst u e R acc b n xs (.blk sz es) = (es.length = n ∧ (∀ e ∈ es, ∀ c ∈ e, isC1 c = true) ∧ (∀ x ∈ xs, dpOk (fbE (look e) b) (vd (fbE (look e) b) x)) ∧ callSW C g hs K ns dst ⟨⟩ e R acc b sz es (xs.map (dpv (fbE (look e) b))) (xs.all fun y => isV (vd (fbE (look e) b) y))) := _root_.id rfl
@[simp] theorem srtM_ref {g xs b k n} : srtM C g hs K ns dst u e R acc xs (.ref (.r b) k n) = (k = 0 ∧ srtB C g hs K ns dst ⟨⟩ e R acc b n xs (look e b)) := _root_.id rfl
@[simp] theorem opW_callS {g x xs v1} : opW C hs K ns dst (.callS g x xs) v1 e R acc = (srtM C g hs K ns dst ⟨⟩ e R acc xs (vd (look e) x)) := by
  cases dst <;> rfl
def argB (n : Nat) (d : D) : Prop := match d with
  | .blk _ es => es.length = n ∧ ∀ e ∈ es, ∀ c ∈ e, isF1 c = true
  | _ => False
def argE1 (f : Nat → D) (b : Nat) (d : D) : Prop := match d with
  | .ref (.r c) k n => k = 0 ∧ c ≠ b ∧ argB n (f c)
  | d => isV d = true
def ownB (d : D) : D := match d with
  | .blk sz es => .own sz es
  | _ => .any
def argV1 (f : Nat → D) (d : D) : D := match d with
  | .ref (.r c) _ _ => ownB (f c)
  | d => d
@[simp] theorem argB_blk {n sz es} : argB n (.blk sz es) = (es.length = n ∧ ∀ e ∈ es, ∀ c ∈ e, isF1 c = true) := _root_.id rfl
@[simp] theorem ownB_blk {sz es} : ownB (.blk sz es) = .own sz es := _root_.id rfl
@[simp] theorem argE_ap {f : Nat → D} {b : Nat} {x : Opd} : argE f b x = argE1 f b (vd f x) := by
  unfold argE argE1 argB
  cases vd f x <;> rfl
@[simp] theorem argV_ap {f : Nat → D} {x : Opd} : argV f x = argV1 f (vd f x) := by
  unfold argV argV1 ownB
  cases vd f x <;> rfl
@[simp] theorem argE1_ref {f : Nat → D} {b c k n} : argE1 f b (.ref (.r c) k n) = (k = 0 ∧ c ≠ b ∧ argB n (f c)) := _root_.id rfl
@[simp] theorem argV1_ref {f : Nat → D} {c k n} : argV1 f (.ref (.r c) k n) = ownB (f c) := _root_.id rfl
@[simp] theorem argE1_int {f : Nat → D} {b k n} : argE1 f b (.int k n) = True := by simp [argE1, isV]
@[simp] theorem argV1_int {f : Nat → D} {k n} : argV1 f (.int k n) = .int k n := _root_.id rfl
def eatW (C : CC) (g : Nat) (hs : Option (List Nat)) (K : Env → Prop) (ns : List NOper) (t : Nat) (_ : Tag (hs, K, ns)) (e : Env) (R : List Nat) (acc : List (List Nat × List Nat)) (sz : Nat) (W : List (List D)) (ds : List D) (q : Nat × D) : Prop :=
  ∃ es' : List (List D), (∀ e ∈ es', e.length = sz ∧ ∀ c ∈ e, isF1 c = true) ∧ C g (.own sz W :: ds) .any [.own sz es', .nils, .nils] ∧ doW C hs K ns ⟨⟩ e R acc [(t, .ref (.r (rt t 0)) 0 es'.length), (rt t 0, .blk sz es'), q] [(rt t 0, true)]
def eatM (C : CC) (g : Nat) (hs : Option (List Nat)) (K : Env → Prop) (ns : List NOper) (t : Nat) (_ : Tag (hs, K, ns)) (e : Env) (R : List Nat) (acc : List (List Nat × List Nat)) (xs : List Opd) (d : D) : Prop := match d with
  | .ref (.r b) k n => blkT (look e b) (fun sz es => k + n ≤ es.length ∧ b ≠ rt t 0 ∧ 0 < sz ∧ (∀ e ∈ (es.drop k).take n, ∀ c ∈ e, isF1 c = true) ∧ (∀ x ∈ xs, argE (look e) b x) ∧ eatW C g hs K ns t ⟨⟩ e R acc sz ((es.drop k).take n) (xs.map (argV (look e))) (b, .any)) ⟨⟩
  | .ref (.n b i o) k n => blkT (look e b) (fun sz0 es0 => rowT es0[i]? (fun row0 => ownT row0[o]? (fun sz es => k + n ≤ es.length ∧ b ≠ rt t 0 ∧ 0 < sz ∧ (∀ e ∈ (es.drop k).take n, ∀ c ∈ e, isF1 c = true) ∧ (∀ x ∈ xs, argE (look e) b x) ∧
      eatW C g hs K ns t ⟨⟩ e R acc sz ((es.drop k).take n) (xs.map (argV (look e))) (b, .blk sz0 (setC es0 i o 1 [.any]))) ⟨⟩) ⟨⟩) ⟨⟩
  | _ => False
@[simp] theorem eatM_r {g xs t b k n} : eatM C g hs K ns t u e R acc xs (.ref (.r b) k n) = blkT (look e b) (fun sz es => k + n ≤ es.length ∧ b ≠ rt t 0 ∧ 0 < sz ∧ (∀ e ∈ (es.drop k).take n, ∀ c ∈ e, isF1 c = true) ∧ (∀ x ∈ xs, argE (look e) b x) ∧ eatW C g hs K ns t ⟨⟩ e R acc sz ((es.drop k).take n) (xs.map (argV (look e))) (b, .any)) ⟨⟩ := _root_.id rfl
@[simp] theorem eatM_n {g xs t b i o k n} : eatM C g hs K ns t u e R acc xs (.ref (.n b i o) k n) = blkT (look e b) (fun sz0 es0 => rowT es0[i]? (fun row0 => ownT row0[o]? (fun sz es => k + n ≤ es.length ∧ b ≠ rt t 0 ∧ 0 < sz ∧ (∀ e ∈ (es.drop k).take n, ∀ c ∈ e, isF1 c = true) ∧ (∀ x ∈ xs, argE (look e) b x) ∧
      eatW C g hs K ns t ⟨⟩ e R acc sz ((es.drop k).take n) (xs.map (argV (look e))) (b, .blk sz0 (setC es0 i o 1 [.any]))) ⟨⟩) ⟨⟩) ⟨⟩ := _root_.id rfl
@[simp] theorem opW_callE {g x xs t v1} : opW C hs K ns (some t) (.callE g x xs) v1 e R acc = eatM C g hs K ns t ⟨⟩ e R acc xs (vd (look e) x) := by
  unfold opW
  simp only [resX]
  cases vd (look e) x <;> try rfl
  rename_i p k n
  cases p with
  | r b =>
    simp only [eatM, blkT, getP, Pa.root, deadP]
    cases look e b <;> rfl
  | n b i o =>
    simp only [eatM, blkT, rowT_eq, ownT_eq, getP, Pa.root, deadP]
    cases hl : look e b <;> try rfl
    rename_i sz0 es0
    simp only
    cases hi : es0[i]? with
    | none => simp
    | some row0 =>
      simp only [Option.getD_some, Option.some.injEq, exists_eq_left']
      cases ho : row0[o]? with
      | none => simp
      | some d =>
        cases d
        case own sz es => exact propext ⟨fun h => ⟨sz, es, rfl, h⟩, fun ⟨sz', es', h0, h⟩ => by cases h0; exact h⟩
        all_goals simp
@[simp] theorem handP_own {f : Nat → D} {b k n sz es} : handP f (.ref (.r b) k n) (.own sz es) = (k = 0 ∧ n = es.length ∧ f b = .blk sz es) := _root_.id rfl
@[simp] theorem handP_blk {f : Nat → D} {b k n sz es} : handP f (.adr (.r b) k n) (.blk sz es) = (k = 0 ∧ n = 0 ∧ f b = .blk sz es) := _root_.id rfl
@[simp] theorem handP_int {f : Nat → D} {k n r} : handP f (.int k n) r = (r = .int k n) := by simp [handP]
@[simp] theorem handP_bool {f : Nat → D} {n r} : handP f (.bool n) r = (r = .bool n) := by simp [handP]
@[simp] theorem handP_str {f : Nat → D} {n r} : handP f (.str n) r = (r = .str n) := by simp [handP]
@[simp] theorem handP_nils {f : Nat → D} {r} : handP f .nils r = (r = .nils) := by simp [handP]
@[simp] theorem handP_nilp {f : Nat → D} {r} : handP f .nilp r = (r = .nilp) := by simp [handP]
@[simp] theorem handP_sl {f : Nat → D} {n r} : handP f (.sl n) r = (r = .sl n) := by simp [handP]
@[simp] theorem handP_agg {f : Nat → D} {n r} : handP f (.agg n) r = (r = .agg n) := by simp [handP]
@[simp] theorem valW_some {t d} : valW (some t) d = [(t, d)] := _root_.id rfl
@[simp] theorem valW_none {d} : valW none d = [] := _root_.id rfl
@[simp] theorem unitW_some {t} : unitW (some t) = [(t, .tup [])] := _root_.id rfl
@[simp] theorem unitW_none : unitW none = [] := _root_.id rfl
def lndW (C : CC) (g : Nat) (hs : Option (List Nat)) (K : Env → Prop) (ns : List NOper) (dst : Option Nat) (_ : Tag (hs, K, ns)) (e : Env) (R : List Nat) (acc : List (List Nat × List Nat)) (b sz : Nat) (es : List (List D)) (ds : List D) : Prop :=
  ∃ d, ∃ es' : List (List D), 0 < es'.length ∧ C g (.blk sz es :: ds) d [.blk sz es'] ∧ doW C hs K ns ⟨⟩ e R acc (valW dst d ++ [(b, .blk sz es')]) [(b, false)]
def lndM (C : CC) (g : Nat) (hs : Option (List Nat)) (K : Env → Prop) (ns : List NOper) (dst : Option Nat) (_ : Tag (hs, K, ns)) (e : Env) (R : List Nat) (acc : List (List Nat × List Nat)) (xs : List Opd) (d : D) : Prop := match d with
  | .adr (.r b) i off => i = 0 ∧ off = 0 ∧ blkT (look e b) (fun sz es => 0 < es.length ∧ (∀ x ∈ xs, isV (vd (look e) x) = true) ∧ lndW C g hs K ns dst ⟨⟩ e R acc b sz es (xs.map (vd (look e)))) ⟨⟩
  | _ => False
@[simp] theorem lndM_r {g xs b i off} : lndM C g hs K ns dst u e R acc xs (.adr (.r b) i off) = (i = 0 ∧ off = 0 ∧ blkT (look e b) (fun sz es => 0 < es.length ∧ (∀ x ∈ xs, isV (vd (look e) x) = true) ∧ lndW C g hs K ns dst ⟨⟩ e R acc b sz es (xs.map (vd (look e)))) ⟨⟩) := _root_.id rfl
@[simp] theorem opW_callL {g x xs v1} : opW C hs K ns dst (.callL g x xs) v1 e R acc = lndM C g hs K ns dst ⟨⟩ e R acc xs (vd (look e) x) := by
  unfold opW
  simp only [resX]
  cases vd (look e) x <;> first | rfl | skip
def clrM (C : CC) (hs : Option (List Nat)) (K : Env → Prop) (ns : List NOper) (dst : Option Nat) (_ : Tag (hs, K, ns)) (e : Env) (R : List Nat) (acc : List (List Nat × List Nat)) (zs : List D) (d : D) : Prop := match d with
  | .nils => doW C hs K ns ⟨⟩ e R acc (unitW dst) []
  | .ref (.r b) k n => blkT (look e b) (fun sz es => k + n ≤ es.length ∧ zs.length = sz ∧ (∀ e ∈ es, ∀ c ∈ e, isC1 c = true) ∧ (∀ c ∈ zs, isC1 c = true) ∧ doW C hs K ns ⟨⟩ e R acc (unitW dst ++ [(b, .blk sz (zeroR es k n zs))]) []) ⟨⟩
  | .ref (.n b i o) k n => blkT (look e b) (fun sz0 es0 => rowT es0[i]? (fun row0 => ownT row0[o]? (fun sz es => k + n ≤ es.length ∧ zs.length = sz ∧ (∀ c ∈ zs, isC1 c = true) ∧ doW C hs K ns ⟨⟩ e R acc (unitW dst ++ [(b, .blk sz0 (setC es0 i o 1 [.own sz (zeroR es k n zs)]))]) []) ⟨⟩) ⟨⟩) ⟨⟩
  | _ => False
@[simp] theorem clrM_r {zs b k n} : clrM C hs K ns dst u e R acc zs (.ref (.r b) k n) = blkT (look e b) (fun sz es => k + n ≤ es.length ∧ zs.length = sz ∧ (∀ e ∈ es, ∀ c ∈ e, isC1 c = true) ∧ (∀ c ∈ zs, isC1 c = true) ∧ doW C hs K ns ⟨⟩ e R acc (unitW dst ++ [(b, .blk sz (zeroR es k n zs))]) []) ⟨⟩ := _root_.id rfl
@[simp] theorem clrM_n {zs b i o k n} : clrM C hs K ns dst u e R acc zs (.ref (.n b i o) k n) = blkT (look e b) (fun sz0 es0 => rowT es0[i]? (fun row0 => ownT row0[o]? (fun sz es => k + n ≤ es.length ∧ zs.length = sz ∧ (∀ c ∈ zs, isC1 c = true) ∧ doW C hs K ns ⟨⟩ e R acc (unitW dst ++ [(b, .blk sz0 (setC es0 i o 1 [.own sz (zeroR es k n zs)]))]) []) ⟨⟩) ⟨⟩) ⟨⟩ := _root_.id rfl
@[simp] theorem clrM_nils {zs} : clrM C hs K ns dst u e R acc zs .nils = doW C hs K ns ⟨⟩ e R acc (unitW dst) [] := _root_.id rfl
@[simp] theorem opW_clr {zs x v1} : opW C hs K ns dst (.clr zs x) v1 e R acc = clrM C hs K ns dst ⟨⟩ e R acc zs (vd (look e) x) := by
  unfold opW
  simp only [resX]
  cases vd (look e) x <;> try rfl
  rename_i p k n
  cases p with
  | r b =>
    simp only [clrM, blkT]
    cases look e b <;> rfl
  | n b i o =>
    simp only [clrM, blkT, rowT_eq, ownT_eq]
    cases look e b <;> rfl
def cellW (C : CC) (g : Nat) (hs : Option (List Nat)) (K : Env → Prop) (ns : List NOper) (dst : Option Nat) (_ : Tag (hs, K, ns)) (e : Env) (R : List Nat) (acc : List (List Nat × List Nat)) (b i o sz0 sz : Nat) (es0 es : List (List D)) (ds : List D) : Prop :=
  ∃ es' : List (List D), es'.length = es.length ∧ (∀ e ∈ es', e.length = sz ∧ ∀ c ∈ e, isC1 c = true) ∧ C g (.own sz es :: ds) .any [.own sz es', .nilp] ∧ doW C hs K ns ⟨⟩ e R acc (unitW dst ++ [(b, .blk sz0 (setC es0 i o 1 [.own sz es']))]) []
def cllM (C : CC) (g : Nat) (hs : Option (List Nat)) (K : Env → Prop) (ns : List NOper) (dst : Option Nat) (_ : Tag (hs, K, ns)) (e : Env) (R : List Nat) (acc : List (List Nat × List Nat)) (xs : List Opd) (d : D) : Prop := match d with
  | .ref (.n b i o) k n => k = 0 ∧ blkT (look e b) (fun sz0 es0 => rowT es0[i]? (fun row0 => ownT row0[o]? (fun sz es => es.length = n ∧ (∀ x ∈ xs, isV (vd (look e) x) = true) ∧ cellW C g hs K ns dst ⟨⟩ e R acc b i o sz0 sz es0 es (xs.map (vd (look e)))) ⟨⟩) ⟨⟩) ⟨⟩
  | _ => False
@[simp] theorem cllM_n {g xs b i o k n} : cllM C g hs K ns dst u e R acc xs (.ref (.n b i o) k n) = (k = 0 ∧ blkT (look e b) (fun sz0 es0 => rowT es0[i]? (fun row0 => ownT row0[o]? (fun sz es => es.length = n ∧ (∀ x ∈ xs, isV (vd (look e) x) = true) ∧ cellW C g hs K ns dst ⟨⟩ e R acc b i o sz0 sz es0 es (xs.map (vd (look e)))) ⟨⟩) ⟨⟩) ⟨⟩) := _root_.id rfl
@[simp] theorem opW_callN {g x xs v1} : opW C hs K ns dst (.callN g x xs) v1 e R acc = cllM C g hs K ns dst ⟨⟩ e R acc xs (vd (look e) x) := by
  unfold opW
  simp only [resX]
  cases vd (look e) x <;> try rfl
  rename_i p k n
  cases p with
  | r b => rfl
  | n b i o =>
    simp only [cllM, blkT, rowT_eq, ownT_eq]
    cases look e b <;> rfl
@[simp] theorem opW_callG {g xs v1} : opW C hs K ns dst (.callG g xs) v1 e R acc = ((∀ x ∈ xs, dpOk (look e) (vd (look e) x)) ∧ callGW C g hs K ns dst ⟨⟩ e R acc (xs.map (dpv (look e)))) := _root_.id rfl
@[simp] theorem opW_callA {g xs t v1} : opW C hs K ns (some t) (.callA g xs) v1 e R acc = ((∀ x ∈ xs, isV (vd (look e) x) = true) ∧ callAW C g hs K ns t ⟨⟩ e R acc (xs.map (vd (look e)))) := _root_.id rfl
@[simp] theorem opW_callF {g xs t v1} : opW C hs K ns (some t) (.callF g xs) v1 e R acc = ((∀ x ∈ xs, dpOk (look e) (vd (look e) x)) ∧ callFW C g hs K ns t ⟨⟩ e R acc (xs.map (dpv (look e)))) := _root_.id rfl
@[simp] theorem opW_call {g xs x0 v1} : opW C hs K ns dst (.call g xs x0) v1 e R acc = ((∀ x ∈ xs, dpOk (look e) (vd (look e) x)) ∧ callW C g hs K ns dst ⟨⟩ e R acc (xs.all fun x => isV (vd (look e) x)) (xs.map (dpv (look e)))) := _root_.id rfl
def asgM (C : CC) (hs : Option (List Nat)) (K : Env → Prop) (ns : List NOper) (t : Nat) (_ : Tag (hs, K, ns)) (e : Env) (R : List Nat) (acc : List (List Nat × List Nat)) (d : D) : Prop := match d with
  | .ref (.r c) k n => if c = rt t 0 then doW C hs K ns ⟨⟩ e R acc [(t, .ref (.r c) k n)] [] else match look e c with
    | .blk sz es => doW C hs K ns ⟨⟩ e R acc [(t, .ref (.r (rt t 0)) k n), (rt t 0, .blk sz es), (c, .any)] [(rt t 0, true)]
    | _ => False
  | d => isS d = true ∧ doW C hs K ns ⟨⟩ e R acc [(t, d)] []
@[simp] theorem opW_asg {t x v1} : opW C hs K ns (some t) (.asg x) v1 e R acc = asgM C hs K ns t ⟨⟩ e R acc (vd (look e) x) := _root_.id rfl
@[simp] theorem asgM_ref {t c k n} : asgM C hs K ns t u e R acc (.ref (.r c) k n) = (if c = rt t 0 then doW C hs K ns ⟨⟩ e R acc [(t, .ref (.r c) k n)] [] else match look e c with
    | .blk sz es => doW C hs K ns ⟨⟩ e R acc [(t, .ref (.r (rt t 0)) k n), (rt t 0, .blk sz es), (c, .any)] [(rt t 0, true)]
    | _ => False) := _root_.id rfl
@[simp] theorem asgM_refn {t b i o k n} : asgM C hs K ns t u e R acc (.ref (.n b i o) k n) = doW C hs K ns ⟨⟩ e R acc [(t, .ref (.n b i o) k n)] [] := by simp [asgM]
@[simp] theorem asgM_nils {t} : asgM C hs K ns t u e R acc .nils = doW C hs K ns ⟨⟩ e R acc [(t, .nils)] [] := by simp [asgM]
@[simp] theorem asgM_sl {t es} : asgM C hs K ns t u e R acc (.sl es) = doW C hs K ns ⟨⟩ e R acc [(t, .sl es)] [] := by simp [asgM]
@[simp] theorem asgM_slx {t b es} : asgM C hs K ns t u e R acc (slx b es) = doW C hs K ns ⟨⟩ e R acc [(t, slx b es)] [] := by
  rcases slx_cases b es with h | ⟨h, _⟩ <;> rw [h] <;> simp
@[simp] theorem asgM_any {t} : asgM C hs K ns t u e R acc .any = doW C hs K ns ⟨⟩ e R acc [(t, .any)] [] := by simp [asgM]
@[simp] theorem asgM_tup {t ds} : asgM C hs K ns t u e R acc (.tup ds) = doW C hs K ns ⟨⟩ e R acc [(t, .tup ds)] [] := by simp [asgM]
def frzM (C : CC) (hs : Option (List Nat)) (K : Env → Prop) (ns : List NOper) (t : Nat) (_ : Tag (hs, K, ns)) (e : Env) (R : List Nat) (acc : List (List Nat × List Nat)) (d : D) : Prop := match d with
  | .ref (.r c) k n => dpOk1 (look e) (.ref (.r c) k n) ∧ doW C hs K ns ⟨⟩ e R acc [(t, dp1 (look e) (.ref (.r c) k n)), (c, .any)] []
  | d => isS d = true ∧ doW C hs K ns ⟨⟩ e R acc [(t, d)] []
@[simp] theorem opW_frz {t x v1} : opW C hs K ns (some t) (.frz x) v1 e R acc = frzM C hs K ns t ⟨⟩ e R acc (vd (look e) x) := _root_.id rfl
@[simp] theorem frzM_ref {t c k n} : frzM C hs K ns t u e R acc (.ref (.r c) k n) = (dpOk1 (look e) (.ref (.r c) k n) ∧ doW C hs K ns ⟨⟩ e R acc [(t, dp1 (look e) (.ref (.r c) k n)), (c, .any)] []) := _root_.id rfl
@[simp] theorem frzM_nils {t} : frzM C hs K ns t u e R acc .nils = doW C hs K ns ⟨⟩ e R acc [(t, .nils)] [] := by simp [frzM]
@[simp] theorem frzM_sl {t es} : frzM C hs K ns t u e R acc (.sl es) = doW C hs K ns ⟨⟩ e R acc [(t, .sl es)] [] := by simp [frzM]
@[simp] theorem frzM_slx {t b es} : frzM C hs K ns t u e R acc (slx b es) = doW C hs K ns ⟨⟩ e R acc [(t, slx b es)] [] := by
  rcases slx_cases b es with h | ⟨h, _⟩ <;> rw [h] <;> simp
def ldqB (C : CC) (hs : Option (List Nat)) (K : Env → Prop) (ns : List NOper) (dst : Option Nat) (_ : Tag (hs, K, ns)) (e : Env) (R : List Nat) (acc : List (List Nat × List Nat)) (c i off : Nat) (d : D) : Prop := match d with
  | .blk _ es => ∃ r, es[i]? = some r ∧ ∃ d, r[off]? = some d ∧ dstK dst (kOf C hs K ns e R acc) (ldc (.r c) i off d)
  | _ => False
@[simp] theorem ldqB_blk {c i off sz es} : ldqB C hs K ns dst u e R acc c i off (.blk sz es) = rowT es[i]? (fun r => celT r[off]? (fun d => dW C hs K ns dst ⟨⟩ e R acc (ldc (.r c) i off d)) ⟨⟩) ⟨⟩ := by
  simp only [ldqB, rowT_eq, celT_eq]; rfl
def ldqM (C : CC) (hs : Option (List Nat)) (K : Env → Prop) (ns : List NOper) (dst : Option Nat) (_ : Tag (hs, K, ns)) (e : Env) (R : List Nat) (acc : List (List Nat × List Nat)) (q : Nat) (d : D) : Prop := match d with
  | .adr (.r c) i off => off = q ∧ ldqB C hs K ns dst ⟨⟩ e R acc c i off (look e c)
  | _ => False
@[simp] theorem ldqM_adr {q c i off} : ldqM C hs K ns dst u e R acc q (.adr (.r c) i off) = (off = q ∧ ldqB C hs K ns dst ⟨⟩ e R acc c i off (look e c)) := _root_.id rfl
@[simp] theorem opW_ldQ {q x v1} : opW C hs K ns dst (.ldQ q x) v1 e R acc = ldqM C hs K ns dst ⟨⟩ e R acc q (vd (look e) x) := _root_.id rfl
def apqB (C : CC) (hs : Option (List Nat)) (K : Env → Prop) (ns : List NOper) (t : Nat) (_ : Tag (hs, K, ns)) (e : Env) (R : List Nat) (acc : List (List Nat × List Nat)) (sz by_ : Nat) (rowsY : List (List D)) (c i o k n : Nat) (d : D) : Prop := match d with
  | .blk sz0 es0 => ∃ row0, es0[i]? = some row0 ∧ ∃ es, row0[o]? = some (.own sz es) ∧ k + n ≤ es.length ∧ (n + rowsY.length) * by_ ≤ 140737488355328 ∧
      kOf C hs K ns e R acc [(t, .ref (.r (rt t 0)) 0 (n + rowsY.length)), (rt t 0, .blk sz ((es.drop k).take n ++ rowsY)), (c, .blk sz0 (setC es0 i o 1 [.any]))] [(rt t 0, true)]
  | _ => False
@[simp] theorem apqB_blk {t sz by_ rowsY c i o k n sz0 es0} : apqB C hs K ns t u e R acc sz by_ rowsY c i o k n (.blk sz0 es0) = rowT es0[i]? (fun row0 => ownT row0[o]? (fun sz' es => sz' = sz ∧ k + n ≤ es.length ∧ (n + rowsY.length) * by_ ≤ 140737488355328 ∧
      doW C hs K ns ⟨⟩ e R acc [(t, .ref (.r (rt t 0)) 0 (n + rowsY.length)), (rt t 0, .blk sz ((es.drop k).take n ++ rowsY)), (c, .blk sz0 (setC es0 i o 1 [.any]))] [(rt t 0, true)]) ⟨⟩) ⟨⟩ := by
  simp only [apqB, rowT_eq, ownT_eq]
  refine propext ⟨?_, ?_⟩
  · rintro ⟨row0, h1, es, h2, h3, h4, h5⟩
    exact ⟨row0, h1, sz, es, h2, rfl, h3, h4, h5⟩
  · rintro ⟨row0, h1, sz', es, h2, rfl, h3, h4, h5⟩
    exact ⟨row0, h1, es, h2, h3, h4, h5⟩
def apqM (C : CC) (hs : Option (List Nat)) (K : Env → Prop) (ns : List NOper) (t : Nat) (_ : Tag (hs, K, ns)) (e : Env) (R : List Nat) (acc : List (List Nat × List Nat)) (q sz by_ : Nat) (yd : D) (d : D) : Prop := match d with
  | .ref (.n c i o') k n => o' = q ∧ rowsW (look e) false yd sz fun rowsY bs => bs = [] ∧ c ≠ rt t 0 ∧ apqB C hs K ns t ⟨⟩ e R acc sz by_ rowsY c i o' k n (look e c)
  | _ => False
@[simp] theorem apqM_ref {t q sz by_ yd c i o k n} : apqM C hs K ns t u e R acc q sz by_ yd (.ref (.n c i o) k n) = (o = q ∧ rowsT (look e) false yd sz (fun rowsY bs => bs = [] ∧ c ≠ rt t 0 ∧ apqB C hs K ns t ⟨⟩ e R acc sz by_ rowsY c i o k n (look e c)) ⟨⟩) := _root_.id rfl
@[simp] theorem opW_appQ {t q sz by_ x y v1} : opW C hs K ns (some t) (.appQ q sz by_ x y) v1 e R acc = apqM C hs K ns t ⟨⟩ e R acc q sz by_ (vd (look e) y) (vd (look e) x) := _root_.id rfl
def cpyB (C : CC) (hs : Option (List Nat)) (K : Env → Prop) (ns : List NOper) (t : Nat) (_ : Tag (hs, K, ns)) (e : Env) (R : List Nat) (acc : List (List Nat × List Nat)) (sz : Nat) (rows : List (List D)) (b k n : Nat) (d : D) : Prop := match d with
  | .blk sz' es => sz' = sz ∧ k + n ≤ es.length ∧ (∀ e ∈ es, ∀ c ∈ e, isC1 c = true) ∧ (∀ e ∈ rows, ∀ c ∈ e, isC1 c = true) ∧ kOf C hs K ns e R acc [(t, .int .i64 (min rows.length n : Nat)), (b, .blk sz (cpyR es k (rows.take n)))] []
  | _ => False
@[simp] theorem cpyB_blk {t sz rows b k n sz' es} : cpyB C hs K ns t u e R acc sz rows b k n (.blk sz' es) = (sz' = sz ∧ k + n ≤ es.length ∧ (∀ e ∈ es, ∀ c ∈ e, isC1 c = true) ∧ (∀ e ∈ rows, ∀ c ∈ e, isC1 c = true) ∧ doW C hs K ns ⟨⟩ e R acc [(t, .int .i64 (min rows.length n : Nat)), (b, .blk sz (cpyR es k (rows.take n)))] []) := _root_.id rfl
def cpyM (C : CC) (hs : Option (List Nat)) (K : Env → Prop) (ns : List NOper) (t : Nat) (_ : Tag (hs, K, ns)) (e : Env) (R : List Nat) (acc : List (List Nat × List Nat)) (sz : Nat) (rows : List (List D)) (d : D) : Prop := match d with
  | .ref (.r b) k n => (n = 0 → kOf C hs K ns e R acc [(t, .int .i64 0)] []) ∧ (0 < n → cpyB C hs K ns t ⟨⟩ e R acc sz rows b k n (look e b))
  | _ => False
@[simp] theorem cpyM_ref {t sz rows b k n} : cpyM C hs K ns t u e R acc sz rows (.ref (.r b) k n) = ((n = 0 → doW C hs K ns ⟨⟩ e R acc [(t, .int .i64 0)] []) ∧ (0 < n → cpyB C hs K ns t ⟨⟩ e R acc sz rows b k n (look e b))) := _root_.id rfl
@[simp] theorem opW_cpy {t sz x y v1} : opW C hs K ns (some t) (.cpy sz x y) v1 e R acc = rowsT (look e) false (vd (look e) y) sz (fun rows bs => bs = [] ∧ 0 < rows.length ∧ cpyM C hs K ns t ⟨⟩ e R acc sz rows (vd (look e) x)) ⟨⟩ := _root_.id rfl
def ldmB (C : CC) (hs : Option (List Nat)) (K : Env → Prop) (ns : List NOper) (t : Nat) (_ : Tag (hs, K, ns)) (e : Env) (R : List Nat) (acc : List (List Nat × List Nat)) (n c : Nat) (d : D) : Prop := match d with
  | .blk _ [row] => row.length = n ∧ okR (.agg row) = true ∧ (hostR t (.agg row)).all (fun p => p.1 != c) = true ∧ doW C hs K ns ⟨⟩ e R acc ((t, hostD t (.agg row)) :: (c, .any) :: hostR t (.agg row)) (hostK t (.agg row))
  | _ => False
@[simp] theorem ldmB_blk {t n c sz row} : ldmB C hs K ns t u e R acc n c (.blk sz [row]) = (row.length = n ∧ okR (.agg row) = true ∧ (hostR t (.agg row)).all (fun p => p.1 != c) = true ∧ doW C hs K ns ⟨⟩ e R acc ((t, hostD t (.agg row)) :: (c, .any) :: hostR t (.agg row)) (hostK t (.agg row))) := _root_.id rfl
def ldmM (C : CC) (hs : Option (List Nat)) (K : Env → Prop) (ns : List NOper) (t : Nat) (_ : Tag (hs, K, ns)) (e : Env) (R : List Nat) (acc : List (List Nat × List Nat)) (n : Nat) (d : D) : Prop := match d with
  | .adr (.r c) i off => i = 0 ∧ off = 0 ∧ ldmB C hs K ns t ⟨⟩ e R acc n c (look e c)
  | _ => False
@[simp] theorem ldmM_adr {t n c i off} : ldmM C hs K ns t u e R acc n (.adr (.r c) i off) = (i = 0 ∧ off = 0 ∧ ldmB C hs K ns t ⟨⟩ e R acc n c (look e c)) := _root_.id rfl
@[simp] theorem opW_ldM {t n x v1} : opW C hs K ns (some t) (.ldM n x) v1 e R acc = ldmM C hs K ns t ⟨⟩ e R acc n (vd (look e) x) := _root_.id rfl
def ldfB (C : CC) (hs : Option (List Nat)) (K : Env → Prop) (ns : List NOper) (t : Nat) (_ : Tag (hs, K, ns)) (e : Env) (R : List Nat) (acc : List (List Nat × List Nat)) (n c i off : Nat) (d : D) : Prop := match d with
  | .blk _ es => ∃ r, es[i]? = some r ∧ off + n ≤ r.length ∧ doW C hs K ns ⟨⟩ e R acc [(t, .agg (((r.drop off).take n).map cellV)), (c, .any)] []
  | _ => False
@[simp] theorem ldfB_blk {t n c i off sz es} : ldfB C hs K ns t u e R acc n c i off (.blk sz es) = rowT es[i]? (fun r => off + n ≤ r.length ∧ doW C hs K ns ⟨⟩ e R acc [(t, .agg (((r.drop off).take n).map cellV)), (c, .any)] []) ⟨⟩ := by
  simp only [ldfB, rowT_eq]
def ldfM (C : CC) (hs : Option (List Nat)) (K : Env → Prop) (ns : List NOper) (t : Nat) (_ : Tag (hs, K, ns)) (e : Env) (R : List Nat) (acc : List (List Nat × List Nat)) (n : Nat) (d : D) : Prop := match d with
  | .adr (.r c) i off => ldfB C hs K ns t ⟨⟩ e R acc n c i off (look e c)
  | _ => False
@[simp] theorem ldfM_adr {t n c i off} : ldfM C hs K ns t u e R acc n (.adr (.r c) i off) = ldfB C hs K ns t ⟨⟩ e R acc n c i off (look e c) := _root_.id rfl
@[simp] theorem opW_ldF {t n x v1} : opW C hs K ns (some t) (.ldF n x) v1 e R acc = ldfM C hs K ns t ⟨⟩ e R acc n (vd (look e) x) := _root_.id rfl
def slmB (C : CC) (hs : Option (List Nat)) (K : Env → Prop) (ns : List NOper) (t : Nat) (_ : Tag (hs, K, ns)) (e : Env) (R : List Nat) (acc : List (List Nat × List Nat)) (len sz c : Nat) (d : D) : Prop := match d with
  | .blk _ [row] => 0 < len ∧ 0 < sz ∧ row.length = len * sz ∧ (∀ d ∈ row, isC1 d = true) ∧ doW C hs K ns ⟨⟩ e R acc [(t, .ref (.r (rt t 0)) 0 len), (rt t 0, .blk sz (chunks sz len row)), (c, .any)] [(rt t 0, true)]
  | _ => False
@[simp] theorem slmB_blk {t len sz c sz0 row} : slmB C hs K ns t u e R acc len sz c (.blk sz0 [row]) = (0 < len ∧ 0 < sz ∧ row.length = len * sz ∧ (∀ d ∈ row, isC1 d = true) ∧ doW C hs K ns ⟨⟩ e R acc [(t, .ref (.r (rt t 0)) 0 len), (rt t 0, .blk sz (chunks sz len row)), (c, .any)] [(rt t 0, true)]) := _root_.id rfl
def slmM (C : CC) (hs : Option (List Nat)) (K : Env → Prop) (ns : List NOper) (t : Nat) (_ : Tag (hs, K, ns)) (e : Env) (R : List Nat) (acc : List (List Nat × List Nat)) (len sz : Nat) (d : D) : Prop := match d with
  | .adr (.r c) i off => i = 0 ∧ off = 0 ∧ c ≠ rt t 0 ∧ slmB C hs K ns t ⟨⟩ e R acc len sz c (look e c)
  | _ => False
@[simp] theorem slmM_adr {t len sz c i off} : slmM C hs K ns t u e R acc len sz (.adr (.r c) i off) = (i = 0 ∧ off = 0 ∧ c ≠ rt t 0 ∧ slmB C hs K ns t ⟨⟩ e R acc len sz c (look e c)) := _root_.id rfl
@[simp] theorem opW_slM {len sz x t v1} : opW C hs K ns (some t) (.slM len sz x) v1 e R acc = slmM C hs K ns t ⟨⟩ e R acc len sz (vd (look e) x) := _root_.id rfl
def boxM (C : CC) (hs : Option (List Nat)) (K : Env → Prop) (ns : List NOper) (dst : Option Nat) (_ : Tag (hs, K, ns)) (e : Env) (R : List Nat) (acc : List (List Nat × List Nat)) (d : D) : Prop := match d with
  | .agx ds => dW C hs K ns dst ⟨⟩ e R acc (.ptx ds)
  | .agg ds => dW C hs K ns dst ⟨⟩ e R acc (.ptr ds)
  | d => isC1 d = true ∧ dW C hs K ns dst ⟨⟩ e R acc (.ptr [d])
@[simp] theorem cellsP_agg {ds : List D} : cellsP (.agg ds) = ds := _root_.id rfl
@[simp] theorem cellsP_int {k n} : cellsP (.int k n) = [.int k n] := _root_.id rfl
@[simp] theorem cellsP_str {n} : cellsP (.str n) = [.str n] := _root_.id rfl
@[simp] theorem cellsP_bool {n} : cellsP (.bool n) = [.bool n] := _root_.id rfl
@[simp] theorem cellsP_sl {n} : cellsP (.sl n) = [.sl n] := _root_.id rfl
@[simp] theorem fillR_nil {f : Nat → D} {es} : fillR f [] es = es := _root_.id rfl
@[simp] theorem fillR_cons {f : Nat → D} {p ps es} : fillR f (p :: ps) es = fillR f ps (es.set p.1 (cellsP (vd f p.2))) := _root_.id rfl
@[simp] theorem opW_blsF {sz len zs parts v1} : opW C hs K ns dst (.blsF sz len zs parts) v1 e R acc = ((∀ p ∈ parts, p.1 < len ∧ (cellsP (vd (look e) p.2)).length = sz ∧ ∀ c ∈ cellsP (vd (look e) p.2), isC1 c = true) ∧ 0 < len ∧
      (∀ r ∈ fillR (look e) parts (List.replicate len zs), ∀ c ∈ r, isC1 c = true) ∧ dW C hs K ns dst ⟨⟩ e R acc (.sl (fillR (look e) parts (List.replicate len zs)))) := _root_.id rfl
@[simp] theorem opW_blsX {sz len zs parts v1} : opW C hs K ns dst (.blsX sz len zs parts) v1 e R acc = (zs.all isC1 = true ∧ (∀ p ∈ parts, p.1 < len ∧ match (generalizing := false) vd (look e) p.2 with
        | .agg ds => ds.length = sz
        | .agx ds => ds.length = sz
        | _ => False) ∧ dW C hs K ns dst ⟨⟩ e R acc (.rfx len sz (cellsX (look e) sz len zs parts))) := _root_.id rfl
attribute [simp] cellsX
@[simp] theorem opW_boxF {x v1} : opW C hs K ns dst (.boxF x) v1 e R acc = boxM C hs K ns dst ⟨⟩ e R acc (vd (look e) x) := _root_.id rfl
@[simp] theorem boxM_agx {ds} : boxM C hs K ns dst u e R acc (.agx ds) = dW C hs K ns dst ⟨⟩ e R acc (.ptx ds) := _root_.id rfl
@[simp] theorem boxM_agg {ds} : boxM C hs K ns dst u e R acc (.agg ds) = dW C hs K ns dst ⟨⟩ e R acc (.ptr ds) := _root_.id rfl
@[simp] theorem boxM_int {k n} : boxM C hs K ns dst u e R acc (.int k n) = dW C hs K ns dst ⟨⟩ e R acc (.ptr [.int k n]) := by simp [boxM]
@[simp] theorem boxM_bool {n} : boxM C hs K ns dst u e R acc (.bool n) = dW C hs K ns dst ⟨⟩ e R acc (.ptr [.bool n]) := by simp [boxM]
@[simp] theorem boxM_str {n} : boxM C hs K ns dst u e R acc (.str n) = dW C hs K ns dst ⟨⟩ e R acc (.ptr [.str n]) := by simp [boxM]
@[simp] theorem boxM_nils : boxM C hs K ns dst u e R acc .nils = dW C hs K ns dst ⟨⟩ e R acc (.ptr [.nils]) := by simp [boxM]
@[simp] theorem boxM_sl {es} : boxM C hs K ns dst u e R acc (.sl es) = dW C hs K ns dst ⟨⟩ e R acc (.ptr [.sl es]) := by simp [boxM]
@[simp] theorem boxM_slx {b es} : boxM C hs K ns dst u e R acc (slx b es) = dW C hs K ns dst ⟨⟩ e R acc (.ptr [slx b es]) := by
  rcases slx_cases b es with h | ⟨h, _⟩ <;> rw [h] <;> simp
@[simp] theorem boxM_ptr {es} : boxM C hs K ns dst u e R acc (.ptr es) = dW C hs K ns dst ⟨⟩ e R acc (.ptr [.ptr es]) := by simp [boxM]
@[simp] theorem boxM_fn {g es} : boxM C hs K ns dst u e R acc (.fn g es) = dW C hs K ns dst ⟨⟩ e R acc (.ptr [.fn g es]) := by simp [boxM]
@[simp] theorem opW_len {x v1} : opW C hs K ns dst (.len x) v1 e R acc = lenM (vd (look e) x) (fun n => dW C hs K ns dst ⟨⟩ e R acc (.int .i64 n)) ⟨⟩ := by
  show res (look e) _ (.len x) = _
  simp only [res, lenM]
  cases vd (look e) x <;> rfl
def iadM (C : CC) (hs : Option (List Nat)) (K : Env → Prop) (ns : List NOper) (dst : Option Nat) (_ : Tag (hs, K, ns)) (e : Env) (R : List Nat) (acc : List (List Nat × List Nat)) (sz : Nat) (x i : D) : Prop := match (generalizing := false) x, i with
    | .sl es, .int _ j => 0 ≤ j ∧ idxW C hs K ns dst ⟨⟩ e R acc sz es j.toNat
    | .rfx n sz' ds, .int _ j => 0 ≤ j ∧ j.toNat < n ∧ sz' = sz ∧ dW C hs K ns dst ⟨⟩ e R acc (.ptx (ds.drop (j.toNat * sz)))
    | .ref p k n, .int _ j => 0 ≤ j ∧ j.toNat < n ∧ match (generalizing := false) getP (look e) p with
      | some (sz', _) => sz' = sz ∧ dW C hs K ns dst ⟨⟩ e R acc (.adr p (k + j.toNat) 0)
      | none => False
    | _, _ => False
@[simp] theorem opW_iadS {sz x i v1} : opW C hs K ns dst (.iadS sz x i) v1 e R acc = iadM C hs K ns dst ⟨⟩ e R acc sz (vd (look e) x) (vd (look e) i) := _root_.id rfl
@[simp] theorem iadM_rfx {sz sz' n ds k j} : iadM C hs K ns dst u e R acc sz (.rfx n sz' ds) (.int k j) = (0 ≤ j ∧ j.toNat < n ∧ sz' = sz ∧ dW C hs K ns dst ⟨⟩ e R acc (.ptx (ds.drop (j.toNat * sz)))) := _root_.id rfl
@[simp] theorem iadM_sl {sz es k j} : iadM C hs K ns dst u e R acc sz (.sl es) (.int k j) = (0 ≤ j ∧ idxW C hs K ns dst ⟨⟩ e R acc sz es j.toNat) := _root_.id rfl
@[simp] theorem iadM_slx {sz b es k j} : iadM C hs K ns dst u e R acc sz (slx b es) (.int k j) = (0 ≤ j ∧ idxW C hs K ns dst ⟨⟩ e R acc sz es j.toNat) := by
  rcases slx_cases b es with h | ⟨h, rfl⟩
  · rw [h]; rfl
  · rw [h]; simp [iadM, idxW]
@[simp] theorem iadM_ref {sz p k n k' j} : iadM C hs K ns dst u e R acc sz (.ref p k n) (.int k' j) = (0 ≤ j ∧ j.toNat < n ∧ match (generalizing := false) getP (look e) p with
      | some (sz', _) => sz' = sz ∧ dW C hs K ns dst ⟨⟩ e R acc (.adr p (k + j.toNat) 0)
      | none => False) := _root_.id rfl
def slcM (C : CC) (hs : Option (List Nat)) (K : Env → Prop) (ns : List NOper) (dst : Option Nat) (_ : Tag (hs, K, ns)) (e : Env) (R : List Nat) (acc : List (List Nat × List Nat)) (sz : Nat) (x : D) (lo hi : Option Opd) : Prop := match (generalizing := false) x with
    | .sl es => (∀ e ∈ es, e.length = sz) ∧ boundT (look e) hi es.length (fun h => boundT (look e) lo 0 (fun l => l ≤ h ∧ h ≤ es.length ∧ dW C hs K ns dst ⟨⟩ e R acc (.sl ((es.take h).drop l))) ⟨⟩) ⟨⟩
    | .nils => boundT (look e) hi 0 (fun h => boundT (look e) lo 0 (fun l => l ≤ h ∧ h ≤ 0 ∧ dW C hs K ns dst ⟨⟩ e R acc (.sl [])) ⟨⟩) ⟨⟩
    | .ref p k n => match (generalizing := false) getP (look e) p with
      | some (sz', _) => sz' = sz ∧ boundT (look e) hi n (fun h => boundT (look e) lo 0 (fun l => l ≤ h ∧ h ≤ n ∧ dW C hs K ns dst ⟨⟩ e R acc (.ref p (k + l) (h - l))) ⟨⟩) ⟨⟩
      | none => False
    | _ => False
@[simp] theorem opW_slc {sz x lo hi v1} : opW C hs K ns dst (.slc sz x lo hi) v1 e R acc = slcM C hs K ns dst ⟨⟩ e R acc sz (vd (look e) x) lo hi := _root_.id rfl
@[simp] theorem slcM_sl {sz es lo hi} : slcM C hs K ns dst u e R acc sz (.sl es) lo hi = ((∀ e ∈ es, e.length = sz) ∧ boundT (look e) hi es.length (fun h => boundT (look e) lo 0 (fun l => l ≤ h ∧ h ≤ es.length ∧ dW C hs K ns dst ⟨⟩ e R acc (.sl ((es.take h).drop l))) ⟨⟩) ⟨⟩) := _root_.id rfl
@[simp] theorem slcM_nils {sz lo hi} : slcM C hs K ns dst u e R acc sz .nils lo hi = boundT (look e) hi 0 (fun h => boundT (look e) lo 0 (fun l => l ≤ h ∧ h ≤ 0 ∧ dW C hs K ns dst ⟨⟩ e R acc (.sl [])) ⟨⟩) ⟨⟩ := _root_.id rfl
@[simp] theorem slcM_ref {sz p k n lo hi} : slcM C hs K ns dst u e R acc sz (.ref p k n) lo hi = (match (generalizing := false) getP (look e) p with
      | some (sz', _) => sz' = sz ∧ boundT (look e) hi n (fun h => boundT (look e) lo 0 (fun l => l ≤ h ∧ h ≤ n ∧ dW C hs K ns dst ⟨⟩ e R acc (.ref p (k + l) (h - l))) ⟨⟩) ⟨⟩
      | none => False) := _root_.id rfl
@[simp] theorem opW_callv {x xs v1} : opW C hs K ns dst (.callv x xs) v1 e R acc = (match (generalizing := false) vd (look e) x with
    | .fn g cs => (∀ x ∈ xs, dpOk (look e) (vd (look e) x)) ∧ callW C g hs K ns dst ⟨⟩ e R acc (xs.all fun x => isV (vd (look e) x)) (xs.map (dpv (look e)) ++ cs)
    | .fnx g cs => (∀ x ∈ xs, dpOk (look e) (vd (look e) x)) ∧ (∀ c ∈ cs, dpOk1 (look e) c) ∧ callW C g hs K ns dst ⟨⟩ e R acc false (xs.map (dpv (look e)) ++ cs.map (dp1 (look e)))
    | _ => False) := by
  simp only [opW, resX, callW, dstK, Bool.false_eq_true, or_false]
  cases vd (look e) x <;> rfl
def mpT (x : D) (K : Nat → Nat → List D → List D → Prop) (_ : Tag K) : Prop := match x with
  | .mp kt et ks vs => K kt et ks vs
  | _ => False
@[simp] theorem mpT_mp {kt et ks vs K u} : mpT (.mp kt et ks vs) K u = K kt et ks vs := _root_.id rfl
@[simp] theorem opW_mkm {kt et t v1} : opW C hs K ns (some t) (.mkm kt et) v1 e R acc = doW C hs K ns ⟨⟩ e R acc [(t, .mrf (rt t 0)), (rt t 0, .mp kt et [] [])] [(rt t 0, true)] := _root_.id rfl
def mlM (C : CC) (hs : Option (List Nat)) (K : Env → Prop) (ns : List NOper) (dst : Option Nat) (_ : Tag (hs, K, ns)) (e : Env) (R : List Nat) (acc : List (List Nat × List Nat)) (sh : KSh) (kt et : Nat) (ok : Bool) (z x m : D) : Prop := match m with
  | .mrf b => mpT (look e b) (fun kt' et' ks vs => kt' = kt ∧ et' = et ∧ keyOkD sh x ∧ match ok with
        | true => dW C hs K ns dst ⟨⟩ e R acc (.tup [(mpGet ks vs x).getD z, .bool (mpGet ks vs x).isSome])
        | false => dW C hs K ns dst ⟨⟩ e R acc ((mpGet ks vs x).getD z)) ⟨⟩
  | _ => False
@[simp] theorem mlM_mrf {sh kt et ok z x b} : mlM C hs K ns dst u e R acc sh kt et ok z x (.mrf b) = mpT (look e b) (fun kt' et' ks vs => kt' = kt ∧ et' = et ∧ keyOkD sh x ∧ match ok with
        | true => dW C hs K ns dst ⟨⟩ e R acc (.tup [(mpGet ks vs x).getD z, .bool (mpGet ks vs x).isSome])
        | false => dW C hs K ns dst ⟨⟩ e R acc ((mpGet ks vs x).getD z)) ⟨⟩ := _root_.id rfl
@[simp] theorem opW_mpl {sh kt et ok z m x v1} : opW C hs K ns dst (.mpl sh kt et ok z m x) v1 e R acc = mlM C hs K ns dst ⟨⟩ e R acc sh kt et ok z (vd (look e) x) (vd (look e) m) := by
  show res (look e) _ (.mpl sh kt et ok z m x) = _
  simp only [res, mlM]
  cases vd (look e) m <;> rfl
def muM (C : CC) (hs : Option (List Nat)) (K : Env → Prop) (ns : List NOper) (_ : Tag (hs, K, ns)) (e : Env) (R : List Nat) (acc : List (List Nat × List Nat)) (sh : KSh) (kt et : Nat) (z x v m : D) : Prop := match m with
  | .mrf b => mpT (look e b) (fun kt' et' ks vs => kt' = kt ∧ et' = et ∧ ks.length < maxLen ∧ keyOkD sh x ∧ elOkD z v ∧ doW C hs K ns ⟨⟩ e R acc [(b, .mp kt et (x :: ks) (v :: vs))] []) ⟨⟩
  | _ => False
@[simp] theorem muM_mrf {sh kt et z x v b} : muM C hs K ns u e R acc sh kt et z x v (.mrf b) = mpT (look e b) (fun kt' et' ks vs => kt' = kt ∧ et' = et ∧ ks.length < maxLen ∧ keyOkD sh x ∧ elOkD z v ∧ doW C hs K ns ⟨⟩ e R acc [(b, .mp kt et (x :: ks) (v :: vs))] []) ⟨⟩ := _root_.id rfl
@[simp] theorem opW_mpu {sh kt et z m x v v1} : opW C hs K ns dst (.mpu sh kt et z m x v) v1 e R acc = (dst = none ∧ muM C hs K ns ⟨⟩ e R acc sh kt et z (vd (look e) x) (vd (look e) v) (vd (look e) m)) := by
  show (dst = none ∧ _) = _
  congr 1
end
@[simp] theorem keyOkD_str {s} : keyOkD .str (.str s) = (s.length ≤ maxLen) := _root_.id rfl
@[simp] theorem keyOkD_bool {b} : keyOkD .bool (.bool b) = True := _root_.id rfl
@[simp] theorem keyOkD_int {q q' n} : keyOkD (.int q) (.int q' n) = (q' = q ∧ inKd q n) := _root_.id rfl
@[simp] theorem keyOkD_ints {q n ds} : keyOkD (.ints q n) (.agg ds) = (ds.length = n ∧ ∀ d ∈ ds, ∃ x, d = .int q x ∧ inKd q x) := _root_.id rfl
@[simp] theorem elOkD_str {s z} : elOkD (.str z) (.str s) = (s.length ≤ maxLen) := _root_.id rfl
@[simp] theorem elOkD_bool {b z} : elOkD (.bool z) (.bool b) = True := _root_.id rfl
@[simp] theorem elOkD_int {q q' n z} : elOkD (.int q z) (.int q' n) = (q' = q ∧ inKd q n) := _root_.id rfl
@[simp] theorem inKd_i64 {n : Int} : inKd .i64 n = (-9223372036854775808 ≤ n ∧ n ≤ 9223372036854775807) := by
  have e1 : IntKind.i64.min = -9223372036854775808 := rfl
  have e2 : IntKind.i64.max = 9223372036854775807 := rfl
  simp [inKd, Lit.wf, e1, e2]
attribute [simp] partsR hostP hostL hostD hostR1 hostRL hostR hostK okPd okR retA handL handB
attribute [simp] vd params retOk retOwn retRow retNew flatP resD1 resP prune Weak isC fillD getP setP setC dpv anys stK mentP rt chk rdS rdR frR fwR enc4 rdN encR wrK mnR opsN ldN opdsOf opdSlots gSlot wOk Pa.root flatEq noDupN
end Go.Gv

namespace Go.Gv
def isLetter (c : Int) : Bool := (97 ≤ c && c ≤ 122) || (65 ≤ c && c ≤ 90)
def isDigit (c : Int) : Bool := 48 ≤ c && c ≤ 57
def isWordB (c : UInt8) : Bool := isLetter c.toNat || isDigit c.toNat || c.toNat == 95
def wordLen (s : List UInt8) : Nat := (s.takeWhile isWordB).length
def fits (n : Int) : Bool := -1125899906842624 ≤ n && n ≤ 1125899906842624
def isName (s : List UInt8) : Bool := s ≠ [] && s.length ≤ 20 && isLetter (s[0]!).toNat && wordLen s == s.length
theorem wrap_i64 {n m : Int} (h : n = m) (h2 : -9223372036854775808 ≤ m ∧ m < 9223372036854775808) : IntKind.wrap .i64 n = m := by
  subst h
  have e1 : IntKind.i64.signed = true := rfl
  have e2 : (2 ^ (IntKind.i64.bits - 1) : Int) = 9223372036854775808 := rfl
  have e3 : (2 ^ IntKind.i64.bits : Int) = 18446744073709551616 := rfl
  unfold IntKind.wrap
  simp only [e1, e2, e3, Bool.true_and, decide_eq_true_eq]
  split <;> omega
set_option linter.unusedSimpArgs false
variable {C : CC} (hC : Closed prog C)
include hC
end Go.Gv

set_option linter.unusedSimpArgs false
namespace Go.Gv
structure SlI where
  n : Bool
  l : List Int
  deriving Inhabited
def slI (x : SlI) : D := slx x.n (x.l.map fun n => [.int .i64 n])
def knD (k : Int × Int) : List D := [.int .i64 k.1, .int .i64 k.2]
structure Sec where
  name : List UInt8
  height : Int
  price : Int
  areaN : Bool
  area : List (Int × Int)
  convN : Bool
  conv : List (Int × Int)
  deriving Inhabited
def secC (s : Sec) : List D := [.str s.name, .int .i64 s.height, .int .i64 s.price, slx s.areaN (s.area.map knD), slx s.convN (s.conv.map knD)]
def idxD {α : Type} (p : α → Bool) (xs : List α) : Int := match xs.findIdx? p with
  | some i => i
  | none => -1
theorem idxD_step {α : Type} {p : α → Bool} {xs : List α} {i : Nat} (hj : ∀ (j : Nat) (h : j < xs.length), j < i → p xs[j] = false) (hi : i < xs.length) (h : p xs[i] = true) : idxD p xs = i := by
  have : xs.findIdx? p = some i := by
    rw [List.findIdx?_eq_some_iff_getElem]
    exact ⟨hi, h, fun j hji => by simp [hj j (by omega) hji]⟩
  simp [idxD, this]
theorem idxD_none {α : Type} {p : α → Bool} {xs : List α} (hj : ∀ (j : Nat) (h : j < xs.length), p xs[j] = false) : idxD p xs = -1 := by
  have : xs.findIdx? p = none := by
    rw [List.findIdx?_eq_none_iff]
    intro x hx
    obtain ⟨j, h, rfl⟩ := List.mem_iff_getElem.1 hx
    exact hj j h
  simp [idxD, this]
theorem idxD_any {α : Type} (p : α → Bool) (xs : List α) : decide (0 ≤ idxD p xs) = xs.any p := by
  unfold idxD
  split
  · rename_i i h
    rw [List.findIdx?_eq_some_iff_getElem] at h
    obtain ⟨h1, h2, _⟩ := h
    have : xs.any p = true := List.any_eq_true.2 ⟨_, List.getElem_mem h1, h2⟩
    simp [this]
  · rename_i h
    rw [List.findIdx?_eq_none_iff] at h
    have : xs.any p = false := by rw [List.any_eq_false]; intro x hx; simp [h x hx]
    simp [this]
variable {C : CC} (hC : Closed prog C)
include hC
theorem idxInt_c {b : Bool} {xs : List Int} {g : Nat} {cs : List D} (p : Int → Bool) (hs : xs.length < 2 ^ 62) (hp : ∀ x ∈ xs, C g (.int .i64 x :: cs) (.bool (p x)) []) : C 35 [slx b (xs.map fun x => [.int .i64 x]), .fn g cs] (.int .i64 (idxD p xs)) [] := by
  refine start hC (nf := N35_slices_IndexFunc__int_int) rfl rfl ?_
  simp [N35_slices_IndexFunc__int_int]
  refine loop_of Nat (fun i => [(0, slx b (xs.map fun x => [.int .i64 x])), (1, .fn g cs), (7, .int .i64 xs.length), (8, .int .i64 i)]) (fun i => i ≤ xs.length ∧ ∀ (j : Nat) (h : j < xs.length), j < i → p xs[j] = false) (fun i => xs.length - i) 0 (by simp) (by simp) ?_
  rintro i ⟨hi, hj⟩
  simp
  refine brB_of (fun h => ?_) (fun h => ?_) <;> simp [h] <;> simp at h
  · have hw : IntKind.wrap .i64 ((i : Int) + 1) = ((i + 1 : Nat) : Int) := wrap_i64 (by omega) (by omega)
    have hc := hp _ (List.getElem_mem h)
    simp [h, List.getElem_map] at hc ⊢
    refine callW_of hc (.inl rfl) ?_
    simp
    refine brB_of (fun h1 => ?_) (fun h1 => ?_) <;> simp [h1, hw]
    · rw [idxD_step hj h h1]
    · refine ⟨i + 1, ⟨by omega, fun j hl hjj => ?_⟩, by omega, rfl⟩
      rcases Nat.lt_succ_iff_lt_or_eq.1 hjj with h2 | rfl
      · exact hj j hl h2
      · exact h1
  · rw [idxD_none (fun j hl => hj j hl (by omega))]
theorem hasInt_c {b : Bool} {xs : List Int} {g : Nat} {cs : List D} (p : Int → Bool) (hs : xs.length < 2 ^ 62) (hp : ∀ x ∈ xs, C g (.int .i64 x :: cs) (.bool (p x)) []) : C 11 [slx b (xs.map fun x => [.int .i64 x]), .fn g cs] (.bool (xs.any p)) [] := by
  refine start hC (nf := N11_slices_ContainsFunc__int_int) rfl rfl ?_
  simp [N11_slices_ContainsFunc__int_int]
  refine callW_of (idxInt_c hC p hs hp) (.inl rfl) ?_
  simp [idxD_any]
end Go.Gv

namespace Go.Gv
section
variable {C : CC}
def outK (id : Nat) (S : Type) (G : S → Env) (J : S → Prop) (Q : NExit → Env → Prop) : NExit → Env → Prop := fun t e => match t with
  | .ext i => if i = id then ∃ s, J s ∧ Weak e (G s) else Q (.ext i) e
  | t => Q t e
variable {Q : NExit → Env → Prop} {e : Env}
@[simp] theorem endW_out_nrm {id S G J u} : endW (outK id S G J Q) u .nrm e = endW Q ⟨⟩ .nrm e := _root_.id rfl
@[simp] theorem endW_out_ret {id S G J u} : endW (outK id S G J Q) u .ret e = endW Q ⟨⟩ .ret e := _root_.id rfl
@[simp] theorem endW_out_ext {id S G J u i} : endW (outK id S G J Q) u (.ext i) e = if i = id then ∃ s, J s ∧ Weak e (G s) else endW Q ⟨⟩ (.ext i) e := _root_.id rfl
def midK (S : Type) (G : S → Env) (J : S → Prop) (Q : NExit → Env → Prop) : NExit → Env → Prop := fun t e => match t with
  | .nrm => ∃ s, J s ∧ Weak e (G s)
  | t => Q t e
@[simp] theorem endW_mid_nrm {S G J u} : endW (midK S G J Q) u .nrm e = ∃ s, J s ∧ Weak e (G s) := _root_.id rfl
@[simp] theorem endW_mid_ret {S G J u} : endW (midK S G J Q) u .ret e = endW Q ⟨⟩ .ret e := _root_.id rfl
@[simp] theorem endW_mid_ext {S G J u i} : endW (midK S G J Q) u (.ext i) e = endW Q ⟨⟩ (.ext i) e := _root_.id rfl
end
@[simp] theorem rowW_map {C : CC} {hs : Option (List Nat)} {K : Env → Prop} {ns : List NOper} {dst : Option Nat} {u : Tag (hs, K, ns)} {e : Env} {R : List Nat} {acc : List (List Nat × List Nat)} {α : Type} [Inhabited α] {n : Nat} {ag : Bool} {p : Pa} {xs : List α} {f : α → List D} {i off : Nat} :
    rowW C hs K ns dst u e R acc n ag p (xs.map f) i off = (i < xs.length ∧ off + n ≤ (f xs[i]!).length ∧ match ag with
        | true => ((((f xs[i]!).drop off).take n).all isV = true → dW C hs K ns dst ⟨⟩ e R acc (.agg (((f xs[i]!).drop off).take n))) ∧
            ((((f xs[i]!).drop off).take n).all isV = false → dW C hs K ns dst ⟨⟩ e R acc (.agx ((((f xs[i]!).drop off).take n).mapIdx fun j c => ldc p i (off + j) c)))
        | false => dW C hs K ns dst ⟨⟩ e R acc (ldc p i off (((f xs[i]!).drop off).headD .any))) := by
  apply propext
  constructor
  · rintro ⟨r, h, h1, h2⟩
    rw [List.getElem?_map, Option.map_eq_some_iff] at h
    obtain ⟨x, hx, rfl⟩ := h
    obtain ⟨hi, rfl⟩ := List.getElem?_eq_some_iff.1 hx
    rw [getElem!_pos xs i hi]
    refine ⟨hi, h1, ?_⟩
    cases ag <;> exact h2
  · rintro ⟨hi, h1, h2⟩
    rw [getElem!_pos xs i hi] at h1 h2
    refine rowW_of (r := f xs[i]) (by rw [List.getElem?_map, List.getElem?_eq_getElem hi]; rfl) h1 ?_
    cases ag <;> exact h2
@[simp] theorem kill1_ptx {b all ks n} : kill1 ((b, all) :: ks) (.ptx n) = if n.any (ment1 b all) then .any else kill1 ks (.ptx n) := by
  have h : kill1 ((b, all) :: ks) (.ptx n) = bif (n.any (ment1 b all) || mentL ks (.ptx n)) then .any else .ptx n := kill1_eq ..
  rw [h, kill1_eq]
  cases n.any (ment1 b all) <;> rfl
@[simp] theorem kill1_rfx {b all ks k sz n} : kill1 ((b, all) :: ks) (.rfx k sz n) = if n.any (ment1 b all) then .any else kill1 ks (.rfx k sz n) := by
  have h : kill1 ((b, all) :: ks) (.rfx k sz n) = bif (n.any (ment1 b all) || mentL ks (.rfx k sz n)) then .any else .rfx k sz n := kill1_eq ..
  rw [h, kill1_eq]
  cases n.any (ment1 b all) <;> rfl
@[simp] theorem kill1_tpx {b all ks n} : kill1 ((b, all) :: ks) (.tpx n) = if n.any (ment1 b all) then .any else kill1 ks (.tpx n) := by
  have h : kill1 ((b, all) :: ks) (.tpx n) = bif (n.any (ment1 b all) || mentL ks (.tpx n)) then .any else .tpx n := kill1_eq ..
  rw [h, kill1_eq]
  cases n.any (ment1 b all) <;> rfl
@[simp] theorem ment1_slx {b all n es} : ment1 b all (slx n es) = false := by cases n <;> cases es <;> rfl
@[simp] theorem ment1_ref {b all p k n} : ment1 b all (.ref p k n) = mentP b all p := _root_.id rfl
@[simp] theorem ment1_adr {b all p k n} : ment1 b all (.adr p k n) = mentP b all p := _root_.id rfl
@[simp] theorem ment1_mrf {b all c} : ment1 b all (.mrf c) = (all && c == b) := _root_.id rfl
@[simp] theorem ment1_int {b all k n} : ment1 b all (.int k n) = false := _root_.id rfl
@[simp] theorem ment1_bool {b all n} : ment1 b all (.bool n) = false := _root_.id rfl
@[simp] theorem ment1_str {b all n} : ment1 b all (.str n) = false := _root_.id rfl
@[simp] theorem ment1_nils {b all} : ment1 b all .nils = false := _root_.id rfl
@[simp] theorem ment1_nilp {b all} : ment1 b all .nilp = false := _root_.id rfl
@[simp] theorem ment1_sl {b all n} : ment1 b all (.sl n) = false := _root_.id rfl
@[simp] theorem ment1_ptr {b all n} : ment1 b all (.ptr n) = false := _root_.id rfl
@[simp] theorem ment1_fn {b all g n} : ment1 b all (.fn g n) = false := _root_.id rfl
@[simp] theorem kill1_mrf {b all ks c} : kill1 ((b, all) :: ks) (.mrf c) = if (all && c == b) then .any else kill1 ks (.mrf c) := by
  have h : kill1 ((b, all) :: ks) (.mrf c) = bif ((all && c == b) || mentL ks (.mrf c)) then .any else .mrf c := kill1_eq ..
  rw [h, kill1_eq]
  cases all && c == b <;> rfl
end Go.Gv

namespace Go.Gv
section
variable {C : CC} {hs : Option (List Nat)} {K : Env → Prop} {ns : List NOper} {dst : Option Nat} {u : Tag (hs, K, ns)} {e : Env} {R : List Nat} {acc : List (List Nat × List Nat)}
theorem idxW_some {sz : Nat} {es : List (List D)} {i : Nat} {c : List D} (h : es[i]? = some c) : idxW C hs K ns dst u e R acc sz es i = (c.length = sz ∧ dW C hs K ns dst ⟨⟩ e R acc (.ptr c)) := by
  apply propext
  unfold idxW dW
  rw [h]
  exact ⟨fun ⟨_, h1, h2⟩ => by cases h1; exact h2, fun h2 => ⟨c, rfl, h2⟩⟩
theorem rowW_some {n : Nat} {ag : Bool} {p : Pa} {es : List (List D)} {i off : Nat} {r : List D} (hr : es[i]? = some r) : rowW C hs K ns dst u e R acc n ag p es i off = (off + n ≤ r.length ∧ match ag with
        | true => (((r.drop off).take n).all isV = true → dW C hs K ns dst ⟨⟩ e R acc (.agg ((r.drop off).take n))) ∧
            (((r.drop off).take n).all isV = false → dW C hs K ns dst ⟨⟩ e R acc (.agx (((r.drop off).take n).mapIdx fun j c => ldc p i (off + j) c)))
        | false => dW C hs K ns dst ⟨⟩ e R acc (ldc p i off ((r.drop off).headD .any))) := by
  apply propext
  constructor
  · rintro ⟨r', h, h1, h2⟩
    rw [hr] at h
    cases h
    refine ⟨h1, ?_⟩
    cases ag <;> exact h2
  · rintro ⟨h1, h2⟩
    refine rowW_of hr h1 ?_
    cases ag <;> exact h2
@[simp] theorem idxW_at0 {sz : Nat} {c0 : List D} {es : List (List D)} : idxW C hs K ns dst u e R acc sz (c0 :: es) 0 = (c0.length = sz ∧ dW C hs K ns dst ⟨⟩ e R acc (.ptr c0)) := idxW_some rfl
theorem rowW_at0 {n : Nat} {ag : Bool} {p : Pa} {off : Nat} {c0 : List D} {es : List (List D)} : rowW C hs K ns dst u e R acc n ag p (c0 :: es) 0 off = (off + n ≤ c0.length ∧ match ag with
        | true => (((c0.drop off).take n).all isV = true → dW C hs K ns dst ⟨⟩ e R acc (.agg ((c0.drop off).take n))) ∧
            (((c0.drop off).take n).all isV = false → dW C hs K ns dst ⟨⟩ e R acc (.agx (((c0.drop off).take n).mapIdx fun j c => ldc p 0 (off + j) c)))
        | false => dW C hs K ns dst ⟨⟩ e R acc (ldc p 0 off ((c0.drop off).headD .any))) := rowW_some rfl
@[simp] theorem idxW_at1 {sz : Nat} {c0 c1 : List D} {es : List (List D)} : idxW C hs K ns dst u e R acc sz (c0 :: c1 :: es) 1 = (c1.length = sz ∧ dW C hs K ns dst ⟨⟩ e R acc (.ptr c1)) := idxW_some rfl
theorem rowW_at1 {n : Nat} {ag : Bool} {p : Pa} {off : Nat} {c0 c1 : List D} {es : List (List D)} : rowW C hs K ns dst u e R acc n ag p (c0 :: c1 :: es) 1 off = (off + n ≤ c1.length ∧ match ag with
        | true => (((c1.drop off).take n).all isV = true → dW C hs K ns dst ⟨⟩ e R acc (.agg ((c1.drop off).take n))) ∧
            (((c1.drop off).take n).all isV = false → dW C hs K ns dst ⟨⟩ e R acc (.agx (((c1.drop off).take n).mapIdx fun j c => ldc p 1 (off + j) c)))
        | false => dW C hs K ns dst ⟨⟩ e R acc (ldc p 1 off ((c1.drop off).headD .any))) := rowW_some rfl
@[simp] theorem idxW_at2 {sz : Nat} {c0 c1 c2 : List D} {es : List (List D)} : idxW C hs K ns dst u e R acc sz (c0 :: c1 :: c2 :: es) 2 = (c2.length = sz ∧ dW C hs K ns dst ⟨⟩ e R acc (.ptr c2)) := idxW_some rfl
theorem rowW_at2 {n : Nat} {ag : Bool} {p : Pa} {off : Nat} {c0 c1 c2 : List D} {es : List (List D)} : rowW C hs K ns dst u e R acc n ag p (c0 :: c1 :: c2 :: es) 2 off = (off + n ≤ c2.length ∧ match ag with
        | true => (((c2.drop off).take n).all isV = true → dW C hs K ns dst ⟨⟩ e R acc (.agg ((c2.drop off).take n))) ∧
            (((c2.drop off).take n).all isV = false → dW C hs K ns dst ⟨⟩ e R acc (.agx (((c2.drop off).take n).mapIdx fun j c => ldc p 2 (off + j) c)))
        | false => dW C hs K ns dst ⟨⟩ e R acc (ldc p 2 off ((c2.drop off).headD .any))) := rowW_some rfl
@[simp] theorem idxW_at3 {sz : Nat} {c0 c1 c2 c3 : List D} {es : List (List D)} : idxW C hs K ns dst u e R acc sz (c0 :: c1 :: c2 :: c3 :: es) 3 = (c3.length = sz ∧ dW C hs K ns dst ⟨⟩ e R acc (.ptr c3)) := idxW_some rfl
theorem rowW_at3 {n : Nat} {ag : Bool} {p : Pa} {off : Nat} {c0 c1 c2 c3 : List D} {es : List (List D)} : rowW C hs K ns dst u e R acc n ag p (c0 :: c1 :: c2 :: c3 :: es) 3 off = (off + n ≤ c3.length ∧ match ag with
        | true => (((c3.drop off).take n).all isV = true → dW C hs K ns dst ⟨⟩ e R acc (.agg ((c3.drop off).take n))) ∧
            (((c3.drop off).take n).all isV = false → dW C hs K ns dst ⟨⟩ e R acc (.agx (((c3.drop off).take n).mapIdx fun j c => ldc p 3 (off + j) c)))
        | false => dW C hs K ns dst ⟨⟩ e R acc (ldc p 3 off ((c3.drop off).headD .any))) := rowW_some rfl
@[simp] theorem idxW_at4 {sz : Nat} {c0 c1 c2 c3 c4 : List D} {es : List (List D)} : idxW C hs K ns dst u e R acc sz (c0 :: c1 :: c2 :: c3 :: c4 :: es) 4 = (c4.length = sz ∧ dW C hs K ns dst ⟨⟩ e R acc (.ptr c4)) := idxW_some rfl
theorem rowW_at4 {n : Nat} {ag : Bool} {p : Pa} {off : Nat} {c0 c1 c2 c3 c4 : List D} {es : List (List D)} : rowW C hs K ns dst u e R acc n ag p (c0 :: c1 :: c2 :: c3 :: c4 :: es) 4 off = (off + n ≤ c4.length ∧ match ag with
        | true => (((c4.drop off).take n).all isV = true → dW C hs K ns dst ⟨⟩ e R acc (.agg ((c4.drop off).take n))) ∧
            (((c4.drop off).take n).all isV = false → dW C hs K ns dst ⟨⟩ e R acc (.agx (((c4.drop off).take n).mapIdx fun j c => ldc p 4 (off + j) c)))
        | false => dW C hs K ns dst ⟨⟩ e R acc (ldc p 4 off ((c4.drop off).headD .any))) := rowW_some rfl
attribute [simp] rowW_at0 rowW_at1 rowW_at2 rowW_at3 rowW_at4
end
end Go.Gv

set_option linter.unusedSimpArgs false
namespace Go.Gv
structure Spt where
  x : Int
  y : Int
  z : Int
  deriving Inhabited, DecidableEq
structure Fce where
  a : Int
  b : Int
  c : Int
  k : Int
  deriving Inhabited, DecidableEq
structure Msh where
  sn : Bool
  s : List Spt
  fn : Bool
  f : List Fce
def sptC (s : Spt) : List D := [.int .i64 s.x, .int .i64 s.y, .int .i64 s.z]
def fceC (f : Fce) : List D := [.int .i64 f.a, .int .i64 f.b, .int .i64 f.c, .int .i64 f.k]
def mshC (m : Msh) : List D := [slx m.sn (m.s.map sptC), slx m.fn (m.f.map fceC)]
theorem sptC_eq (s : Spt) : sptC s = [.int .i64 s.x, .int .i64 s.y, .int .i64 s.z] := _root_.id rfl
theorem fceC_eq (f : Fce) : fceC f = [.int .i64 f.a, .int .i64 f.b, .int .i64 f.c, .int .i64 f.k] := _root_.id rfl
theorem mshC_eq (m : Msh) : mshC m = [slx m.sn (m.s.map sptC), slx m.fn (m.f.map fceC)] := _root_.id rfl
def spt (m : Msh) (i : Nat) : Spt := m.s[i]!
def fce (m : Msh) (i : Nat) : Fce := m.f[i]!
@[simp high] theorem spt_gb (m : Msh) (i : Nat) : m.s[i]! = spt m i := _root_.id rfl
@[simp high] theorem fce_gb (m : Msh) (i : Nat) : m.f[i]! = fce m i := _root_.id rfl
@[simp high] theorem spt_gd (m : Msh) (i : Nat) : m.s[i]?.getD default = spt m i := by simp only [spt, List.getElem!_eq_getElem?_getD]
@[simp high] theorem fce_gd (m : Msh) (i : Nat) : m.f[i]?.getD default = fce m i := by simp only [fce, List.getElem!_eq_getElem?_getD]
@[simp] theorem spt_g (m : Msh) (i : Nat) (h : i < m.s.length) : m.s[i] = spt m i := (getElem!_pos m.s i h).symm
@[simp] theorem fce_g (m : Msh) (i : Nat) (h : i < m.f.length) : m.f[i] = fce m i := (getElem!_pos m.f i h).symm
abbrev Pnt := Int × Int
def ptD (p : Pnt) : List D := [.int .i64 p.1, .int .i64 p.2]
def ptS (s : Spt) : Pnt := (s.x, s.y)
def okP (p : Pnt) : Bool := -16777216 ≤ p.1 && p.1 ≤ 16777216 && -16777216 ≤ p.2 && p.2 ≤ 16777216
def rightS (s : Spt) : Bool := -16777216 ≤ s.x && s.x ≤ 16777216 && -16777216 ≤ s.y && s.y ≤ 16777216 && -4194304 ≤ s.z && s.z ≤ 4194304
theorem okP_of {s : Spt} (h : rightS s = true) : okP (ptS s) = true := by
  simp only [rightS, Bool.and_eq_true, decide_eq_true_eq] at h
  show okP (s.x, s.y) = true
  simp [okP]
  omega
def turnP (a b c : Pnt) : Int := (b.1 - a.1) * (c.2 - a.2) - (b.2 - a.2) * (c.1 - a.1)
theorem mul_bd {a b k l : Int} (h1 : -k ≤ a) (h2 : a ≤ k) (h3 : -l ≤ b) (h4 : b ≤ l) : -(k * l) ≤ a * b ∧ a * b ≤ k * l := by
  have hk : 0 ≤ k := by omega
  have hl : 0 ≤ l := by omega
  have e1 := Int.mul_nonneg (show 0 ≤ k - a by omega) (show 0 ≤ l - b by omega)
  have e2 := Int.mul_nonneg (show 0 ≤ k + a by omega) (show 0 ≤ l + b by omega)
  have e3 := Int.mul_nonneg (show 0 ≤ k - a by omega) (show 0 ≤ l + b by omega)
  have e4 := Int.mul_nonneg (show 0 ≤ k + a by omega) (show 0 ≤ l - b by omega)
  simp only [Int.sub_mul, Int.mul_sub, Int.add_mul, Int.mul_add] at e1 e2 e3 e4
  omega
theorem okP_bd {p : Pnt} (h : okP p = true) : -16777216 ≤ p.1 ∧ p.1 ≤ 16777216 ∧ -16777216 ≤ p.2 ∧ p.2 ≤ 16777216 := by
  simp only [okP, Bool.and_eq_true, decide_eq_true_eq] at h
  omega
theorem turn_bd {a b c : Pnt} (ha : okP a = true) (hb : okP b = true) (hc : okP c = true) :
    (-1125899906842624 ≤ (b.1 - a.1) * (c.2 - a.2) ∧ (b.1 - a.1) * (c.2 - a.2) ≤ 1125899906842624) ∧ (-1125899906842624 ≤ (b.2 - a.2) * (c.1 - a.1) ∧ (b.2 - a.2) * (c.1 - a.1) ≤ 1125899906842624) := by
  have := okP_bd ha
  have := okP_bd hb
  have := okP_bd hc
  exact ⟨mul_bd (k := 33554432) (l := 33554432) (by omega) (by omega) (by omega) (by omega), mul_bd (k := 33554432) (l := 33554432) (by omega) (by omega) (by omega) (by omega)⟩
abbrev Tri := Pnt × Pnt × Pnt
def triD (t : Tri) : List D := [.int .i64 t.1.1, .int .i64 t.1.2, .int .i64 t.2.1.1, .int .i64 t.2.1.2, .int .i64 t.2.2.1, .int .i64 t.2.2.2]
def okT (t : Tri) : Bool := okP t.1 && okP t.2.1 && okP t.2.2
def turnT (t : Tri) : Int := turnP t.1 t.2.1 t.2.2
def sep1 (p q : Pnt) (u : Tri) : Bool := turnP p q u.1 ≤ 0 && turnP p q u.2.1 ≤ 0 && turnP p q u.2.2 ≤ 0
def sepT (t u : Tri) : Bool := sep1 t.1 t.2.1 u || sep1 t.2.1 t.2.2 u || sep1 t.2.2 t.1 u
def ovT (t u : Tri) : Bool := !sepT t u && !sepT u t
def triF (m : Msh) (f : Fce) : Tri := (ptS (spt m f.a.toNat), ptS (spt m f.b.toNat), ptS (spt m f.c.toNat))
def crn (f : Fce) : Nat → Int
  | 0 => f.a
  | 1 => f.b
  | 2 => f.c
  | 3 => f.a
  | 4 => f.b
  | _ => f.c
def inR1 (n : Nat) (a : Int) : Bool := 0 ≤ a && a < n
def inS (m : Msh) (f : Fce) : Bool := inR1 m.s.length f.a && inR1 m.s.length f.b && inR1 m.s.length f.c
theorem inS_bd {m : Msh} {f : Fce} (h : inS m f = true) : (0 ≤ f.a ∧ f.a.toNat < m.s.length) ∧ (0 ≤ f.b ∧ f.b.toNat < m.s.length) ∧ (0 ≤ f.c ∧ f.c.toNat < m.s.length) := by
  simp only [inS, inR1, Bool.and_eq_true, decide_eq_true_eq] at h
  omega
variable {C : CC} (hC : Closed prog C)
include hC
theorem pValid_c (p : Pnt) : C 313 [.agg (ptD p)] (.bool (okP p)) [] := by
  refine start hC (nf := N313_plane_Valid) rfl rfl ?_
  simp [N313_plane_Valid, ptD, okP]
  repeat' (refine brB_of (fun h => ?_) (fun h => ?_) <;> simp at h <;> simp [h] <;> try omega)
theorem mright_c (s : Spt) : C 303 [.agg (sptC s)] (.bool (rightS s)) [] := by
  have k := pValid_c hC (s.x, s.y)
  simp [ptD, okP] at k
  refine start hC (nf := N303_mesh_right) rfl rfl ?_
  simp [N303_mesh_right, sptC, rightS]
  refine callW_of k (.inl rfl) ?_
  simp
  repeat' (refine brB_of (fun h => ?_) (fun h => ?_) <;> simp at h <;> simp [h] <;> try omega)
theorem rSpot_c (s : Spt) : C 289 [.agg (sptC s)] (.bool (rightS s)) [] := by
  refine start hC (nf := N289_ref09_Spot) rfl rfl ?_
  simp [N289_ref09_Spot, sptC, rightS]
  repeat' (refine brB_of (fun h => ?_) (fun h => ?_) <;> simp at h <;> simp [h] <;> try omega)
theorem rPoint_c (s : Spt) : C 291 [.agg (sptC s)] (.agg (ptD (ptS s))) [] := by
  refine start hC (nf := N291_ref09_Point) rfl rfl ?_
  simp [N291_ref09_Point, sptC, ptD, ptS]
theorem msmall_c (m : Msh) : C 302 [.agg (mshC m)] (.bool (decide (m.s.length ≤ 2000) && decide (m.f.length ≤ 4000))) [] := by
  refine start hC (nf := N302_mesh_small) rfl rfl ?_
  simp [N302_mesh_small, mshC]
  refine brB_of (fun h => ?_) (fun h => ?_) <;> simp at h <;> simp [h]
  · rw [decide_eq_true (show m.s.length ≤ 2000 by omega)]
    simp
    exact Iff.intro (fun h2 => by omega) (fun h2 => by omega)
  · omega
theorem rsmall_c (m : Msh) : C 257 [.agg (mshC m)] (.bool (decide (m.s.length ≤ 2000) && decide (m.f.length ≤ 4000))) [] := by
  refine start hC (nf := N257_ref09_Small) rfl rfl ?_
  simp [N257_ref09_Small, mshC]
  refine brB_of (fun h => ?_) (fun h => ?_) <;> simp at h <;> simp [h]
  · rw [decide_eq_true (show m.s.length ≤ 2000 by omega)]
    simp
    exact Iff.intro (fun h2 => by omega) (fun h2 => by omega)
  · omega
theorem mpoint_c (m : Msh) (i : Nat) (h : i < m.s.length) : C 304 [.agg (mshC m), .int .i64 i] (.agg (ptD (ptS (spt m i)))) [] := by
  refine start hC (nf := N304_mesh_point) rfl rfl ?_
  simp [N304_mesh_point, mshC, h, sptC_eq, ptD, ptS]
  exact indW_of (by decide +kernel)
theorem mcorners_c (f : Fce) : C 305 [.agg (fceC f)] (.agg [.int .i64 f.a, .int .i64 f.b, .int .i64 f.c]) [] := by
  refine start hC (nf := N305_mesh_corners) rfl rfl ?_
  simp [N305_mesh_corners, fceC]
theorem mside_c (f : Fce) (k : Nat) (hk : k < 3) : C 298 [.agg (fceC f), .int .i64 k] (.agg [.int .i64 (crn f k), .int .i64 (crn f (k + 1))]) [] := by
  have k1 := mcorners_c hC f
  refine start hC (nf := N298_mesh_side) rfl rfl ?_
  rw [fceC] at k1 ⊢
  simp [N298_mesh_side]
  refine callW_of k1 (.inl rfl) ?_
  have w : IntKind.wrap .i64 ((k : Int) + 1) = ((k + 1 : Nat) : Int) := wrap_i64 (by omega) (by omega)
  have w0 : IntKind.wrap .i64 1 = 1 := by decide
  have w1 : IntKind.wrap .i64 2 = 2 := by decide
  have w2 : IntKind.wrap .i64 3 = 3 := by decide
  rcases (by omega : k = 0 ∨ k = 1 ∨ k = 2) with rfl | rfl | rfl <;> simp [crn, w0, w1, w2] <;> exact indW_of (by decide +kernel)
theorem mturn_c {a b c : Pnt} (ha : okP a = true) (hb : okP b = true) (hc : okP c = true) : C 308 [.agg (ptD a), .agg (ptD b), .agg (ptD c)] (.int .i64 (turnP a b c)) [] := by
  have := okP_bd ha
  have := okP_bd hb
  have := okP_bd hc
  have h4 := turn_bd ha hb hc
  refine start hC (nf := N308_mesh_turn) rfl rfl ?_
  have w1 : IntKind.wrap .i64 (b.1 - a.1) = b.1 - a.1 := wrap_i64 rfl (by omega)
  have w2 : IntKind.wrap .i64 (c.2 - a.2) = c.2 - a.2 := wrap_i64 rfl (by omega)
  have w3 : IntKind.wrap .i64 (b.2 - a.2) = b.2 - a.2 := wrap_i64 rfl (by omega)
  have w4 : IntKind.wrap .i64 (c.1 - a.1) = c.1 - a.1 := wrap_i64 rfl (by omega)
  have w5 : IntKind.wrap .i64 ((b.1 - a.1) * (c.2 - a.2)) = (b.1 - a.1) * (c.2 - a.2) := wrap_i64 rfl (by omega)
  have w6 : IntKind.wrap .i64 ((b.2 - a.2) * (c.1 - a.1)) = (b.2 - a.2) * (c.1 - a.1) := wrap_i64 rfl (by omega)
  have w7 : IntKind.wrap .i64 ((b.1 - a.1) * (c.2 - a.2) - (b.2 - a.2) * (c.1 - a.1)) = turnP a b c := wrap_i64 rfl (by rw [turnP]; omega)
  simp [N308_mesh_turn, ptD, w1, w2, w3, w4, w5, w6, w7]
theorem rTurn_c {a b c : Pnt} (ha : okP a = true) (hb : okP b = true) (hc : okP c = true) : C 286 [.agg (ptD a), .agg (ptD b), .agg (ptD c)] (.int .i64 (turnP a b c)) [] := by
  have := okP_bd ha
  have := okP_bd hb
  have := okP_bd hc
  have h4 := turn_bd ha hb hc
  refine start hC (nf := N286_ref07_Turn) rfl rfl ?_
  have w1 : IntKind.wrap .i64 (b.1 - a.1) = b.1 - a.1 := wrap_i64 rfl (by omega)
  have w2 : IntKind.wrap .i64 (c.2 - a.2) = c.2 - a.2 := wrap_i64 rfl (by omega)
  have w3 : IntKind.wrap .i64 (b.2 - a.2) = b.2 - a.2 := wrap_i64 rfl (by omega)
  have w4 : IntKind.wrap .i64 (c.1 - a.1) = c.1 - a.1 := wrap_i64 rfl (by omega)
  have w5 : IntKind.wrap .i64 ((b.1 - a.1) * (c.2 - a.2)) = (b.1 - a.1) * (c.2 - a.2) := wrap_i64 rfl (by omega)
  have w6 : IntKind.wrap .i64 ((b.2 - a.2) * (c.1 - a.1)) = (b.2 - a.2) * (c.1 - a.1) := wrap_i64 rfl (by omega)
  have w7 : IntKind.wrap .i64 ((b.1 - a.1) * (c.2 - a.2) - (b.2 - a.2) * (c.1 - a.1)) = turnP a b c := wrap_i64 rfl (by rw [turnP]; omega)
  simp [N286_ref07_Turn, ptD, w1, w2, w3, w4, w5, w6, w7]
theorem mtri_c (m : Msh) (f : Fce) (h : inS m f = true) : C 307 [.agg (mshC m), .agg (fceC f)] (.agg (triD (triF m f))) [] := by
  obtain ⟨⟨a1, a2⟩, ⟨b1, b2⟩, ⟨c1, c2⟩⟩ := inS_bd h
  have ka := mpoint_c hC m f.a.toNat a2
  have kb := mpoint_c hC m f.b.toNat b2
  have kc := mpoint_c hC m f.c.toNat c2
  rw [Int.toNat_of_nonneg a1] at ka
  rw [Int.toNat_of_nonneg b1] at kb
  rw [Int.toNat_of_nonneg c1] at kc
  refine start hC (nf := N307_mesh_triangle) rfl rfl ?_
  rw [mshC] at ka kb kc ⊢
  simp [N307_mesh_triangle, fceC]
  simp [ptD] at ka kb kc
  refine callW_of ka (.inl rfl) ?_
  simp
  refine callW_of kb (.inl rfl) ?_
  simp
  refine callW_of kc (.inl rfl) ?_
  simp [triD, triF]
  exact indW_of (by decide +kernel)
theorem rCorner_c (f : Fce) (k : Nat) (hk : k < 4) : C 323 [.agg (fceC f), .int .i64 k] (.int .i64 (crn f k)) [] := by
  refine start hC (nf := N323_ref09_Corner) rfl rfl ?_
  rcases (by omega : k = 0 ∨ k = 1 ∨ k = 2 ∨ k = 3) with rfl | rfl | rfl | rfl <;> simp [N323_ref09_Corner, fceC, crn] <;> (refine rowW_of (r := [.int .i64 _]) rfl (by simp) ?_; simp)
theorem rtri_c (m : Msh) (f : Fce) (h : inS m f = true) : C 285 [.agg (mshC m), .agg (fceC f)] (.sl [ptD (triF m f).1, ptD (triF m f).2.1, ptD (triF m f).2.2]) [] := by
  obtain ⟨⟨a1, a2⟩, ⟨b1, b2⟩, ⟨c1, c2⟩⟩ := inS_bd h
  have ka := rPoint_c hC (spt m f.a.toNat)
  have kb := rPoint_c hC (spt m f.b.toNat)
  have kc := rPoint_c hC (spt m f.c.toNat)
  rw [sptC] at ka kb kc
  refine start hC (nf := N285_ref09_Triangle) rfl rfl ?_
  simp [N285_ref09_Triangle, fceC, mshC, a1, a2, sptC_eq]
  refine callW_of ka (.inl rfl) ?_
  simp [b1, b2, sptC_eq]
  refine callW_of kb (.inl rfl) ?_
  simp [c1, c2, sptC_eq]
  refine callW_of kc (.inl rfl) ?_
  simp [triF, ptD]
  exact indW_of (by decide +kernel)
end Go.Gv
