/-
  Texts of the proof: GvR, GvEmo, ItS, GvT, GvT4, GvU, K1, K3, Q0, Q1.
-/
import Derived.Test.YtbenilopabpjnaaGreatX4
import Derived.SizedLaws
import Derived.ProofKit
import Derived.Test.YtbenilopabpjnaaGreatX5
import Derived.Test.YtbenilopabpjnaaGreatProg
import Derived.KernelRfl
import Derived.Shelf.Sort.Plain
import Derived.Shelf.Slices.CompactI
import Derived.Shelf.Spec.SlicesInsert
import Derived.Sort.Row
import Derived.Sort.Grow
import Derived.Shelf.Slices.In.SortNone
import Derived.Shelf.Spec.SlicesInsertGrow
import Derived.Lib.SlicesCompact
set_option linter.all false
namespace Go.Gv
open Go.RowKit Go.ChangeShapes Go.WideShapes Go.ChangeAt
inductive Sh where
  | int (k : IntKind)
  | bool
  | str
  | sl (row : List Sh)
mutual
def HasSh : Sh → D → Prop
  | .int k, d => ∃ n, d = .int k n ∧ (Lit.int k n).wf = true
  | .bool, d => ∃ b, d = .bool b
  | .str, d => ∃ s, d = .str s ∧ s.length < 140737488355328
  | .sl row, d => ∃ es, (d = .sl es ∨ (d = .nils ∧ es = [])) ∧ es.length < 140737488355328 ∧ ∀ e ∈ es, HasShL row e
def HasShL : List Sh → List D → Prop
  | [], ds => ds = []
  | s :: ss, ds => ∃ d r, ds = d :: r ∧ HasSh s d ∧ HasShL ss r
end
theorem HasShL.length : ∀ {ss : List Sh} {ds : List D}, HasShL ss ds → ds.length = ss.length
  | [], ds, h => by simp only [HasShL] at h; simp [h]
  | s :: ss, ds, h => by
    simp only [HasShL] at h
    obtain ⟨d, r, rfl, _, h2⟩ := h
    simp [HasShL.length h2]
theorem HasShL.append : ∀ {ss ts : List Sh} {ds es : List D}, HasShL ss ds → HasShL ts es → HasShL (ss ++ ts) (ds ++ es)
  | [], ts, ds, es, h, h' => by simp only [HasShL] at h; subst h; exact h'
  | s :: ss, ts, ds, es, h, h' => by
    simp only [HasShL] at h
    obtain ⟨d, r, rfl, h1, h2⟩ := h
    exact ⟨d, r ++ es, rfl, h1, HasShL.append h2 h'⟩
def fldsSh (P : Program) (rec : TypeId → Option (List Sh)) : List Field → Nat → Option (List Sh)
  | [], _ => some []
  | f :: fs, off => if f.offset = off then (match rec f.type with
      | some l => if l.length = P.cellsOf f.type then (match fldsSh P rec fs (off + l.length) with
        | some r => some (l ++ r)
        | none => none) else none
      | none => none) else none
def tySh (P : Program) : Nat → TypeId → Option (List Sh)
  | 0, _ => none
  | n + 1, t => match P.underlying t with
    | some .bool => some [.bool]
    | some (.int k) => some [.int k]
    | some .string => some [.str]
    | some (.slice e) => (match tySh P n e with
      | some l => if l.length = P.cellsOf e ∧ 1 ≤ P.bytesOf e then some [.sl l] else none
      | none => none)
    | some (.struct fs) => (match fldsSh P (tySh P n) fs.toList 0 with
      | some l => if l.length = P.cellsOf t then some l else none
      | none => none)
    | _ => none
section
variable {H : Type} {enc : TypeId × Value → H} {P : Program} {F : Fid} {w : World} {sp : Nat → Bool}
abbrev cellM (w : World) : Mem := fun p => w.cell? p
def Reads (enc : TypeId × Value → H) (P : Program) (F : Fid) (w : World) (sp : Nat → Bool) (n : Nat) (t : TypeId) (shs : List Sh) : Prop :=
  ∀ (cs : List Value) (d : DataW H) (ps : List MemPlace), DataW.trod enc P w 0 sp true n t cs = some (d, ps) → (d.weights P t).all (· ≤ reachBytes) = true → ∃ ds, HasShL shs ds ∧ RepL F (cellM w) ds cs
theorem mapM_cons_some {α β : Type} {f : α → Option β} {x : α} {l : List α} {ys : List β} (h : (x :: l).mapM f = some ys) : ∃ y r, f x = some y ∧ l.mapM f = some r ∧ ys = y :: r := by
  rw [List.mapM_cons] at h
  cases hx : f x with
  | none => rw [hx] at h; cases h
  | some y =>
    cases hl : l.mapM f with
    | none => rw [hx, hl] at h; cases h
    | some r =>
      rw [hx, hl] at h
      exact ⟨y, r, rfl, rfl, by cases h; rfl⟩
theorem reads_flds {n m : Nat} (ih : ∀ t shs, tySh P m t = some shs → Reads enc P F w sp n t shs) {cs : List Value} : ∀ (fs : List Field) (off : Nat) (xs : List (DataW H × List MemPlace)) (shs : List Sh),
    (fs.mapM fun f => DataW.trod enc P w 0 sp true n f.type ((cs.drop f.offset).take (P.cellsOf f.type))) = some xs → fldsSh P (tySh P m) fs off = some shs → (DataW.weightsEach P (fs.map (·.type)) (xs.map (·.1))).all (· ≤ reachBytes) = true → cs.length = off + shs.length →
      ∃ ds, HasShL shs ds ∧ RepL F (cellM w) ds (cs.drop off)
  | [], off, xs, shs, _, h2, _, h4 => by
    cases h2
    exact ⟨[], rfl, by simp only [RepL]; exact List.drop_of_length_le (by simpa using Nat.le_of_eq h4)⟩
  | f :: fs, off, xs, shs, h1, h2, h3, h4 => by
    obtain ⟨y, r, e1, e2, rfl⟩ := mapM_cons_some h1
    simp only [fldsSh] at h2
    split at h2
    case isFalse => cases h2
    rename_i ho
    split at h2
    case h_2 => cases h2
    rename_i l hl
    split at h2
    case isFalse => cases h2
    rename_i hlen
    split at h2
    case h_2 => cases h2
    rename_i rs hr
    cases h2
    simp only [List.map_cons, DataW.weightsEach, List.all_append, Bool.and_eq_true] at h3
    rw [List.length_append] at h4
    obtain ⟨ds1, g1, g2⟩ := ih f.type l hl _ y.1 y.2 e1 h3.1
    obtain ⟨ds2, g3, g4⟩ := reads_flds ih fs (off + l.length) r rs e2 hr h3.2 (by omega)
    refine ⟨ds1 ++ ds2, g1.append g3, ?_⟩
    rw [ho, ← hlen] at g2
    have := g2.append g4
    rwa [← List.drop_drop, List.take_append_drop] at this
theorem reads_rows {n k : Nat} {e : TypeId} {l : List Sh} {a : Addr} (hl : l.length = k) (ih : Reads enc P F w sp n e l) : ∀ (c s : Nat) (xs : List (DataW H × List MemPlace)),
    ((List.range' s c).mapM fun i => (w.cells? 0 (a.add (i * k)) k).bind (DataW.trod enc P w 0 sp true n e)) = some xs → (DataW.weightsAll P e (xs.map (·.1))).all (· ≤ reachBytes) = true →
      ∃ (es : List (List D)) (vs : List Value), es.length = c ∧ xs.length = c ∧ (∀ r ∈ es, HasShL l r) ∧ RepLL F (cellM w) es vs ∧ ∀ j v, vs[j]? = some v → w.cell? (a.add (s * k + j)) = some v
  | 0, s, xs, h, _ => by
    cases h
    exact ⟨[], [], rfl, rfl, by simp, by simp [RepLL], fun j v h => by simp at h⟩
  | c + 1, s, xs, h, hw => by
    rw [List.range'_succ] at h
    obtain ⟨y, r, e1, e2, rfl⟩ := mapM_cons_some h
    rw [Option.bind_eq_some_iff] at e1
    obtain ⟨row, c1, c2⟩ := e1
    simp only [List.map_cons, DataW.weightsAll, List.all_append, Bool.and_eq_true] at hw
    obtain ⟨ds, g1, g2⟩ := ih row y.1 y.2 c2 hw.1
    obtain ⟨es, vs, h1, h2, h3, h4, h5⟩ := reads_rows hl ih c (s + 1) r e2 hw.2
    have hrow := World.cells?_some c1
    refine ⟨ds :: es, row ++ vs, by simp [h1], by simp [h2], ?_, ⟨row, vs, rfl, g2, h4⟩, fun j v hj => ?_⟩
    · intro x hx
      rcases List.mem_cons.1 hx with rfl | hx
      · exact g1
      · exact h3 x hx
    · have hrl : row.length = k := by rw [g2.length, g1.length, hl]
      have addadd : ∀ i j, (a.add i).add j = a.add (i + j) := fun i j => by
        unfold Addr.add
        by_cases hi : i = 0 <;> by_cases hj : j = 0 <;> simp [hi, hj, Nat.add_assoc]
      by_cases hjk : j < k
      · rw [List.getElem?_append_left (by omega)] at hj
        have := hrow.2.2 j hjk
        rw [hj, addadd] at this
        exact this
      · rw [List.getElem?_append_right (by omega)] at hj
        have := h5 (j - row.length) v hj
        rw [hrl] at this
        rwa [show (s + 1) * k + (j - k) = s * k + j by rw [Nat.succ_mul]; omega] at this
theorem trod_ty : ∀ (m : Nat) (n : Nat) (t : TypeId) (shs : List Sh), tySh P m t = some shs → Reads enc P F w sp n t shs
  | 0, _, _, _, h => by cases h
  | m + 1, 0, t, shs, _ => fun cs d ps h _ => by simp [DataW.trod] at h
  | m + 1, n + 1, t, shs, h => by
    intro cs d ps ht hw
    rw [tySh] at h
    split at h
    · rename_i hu
      cases h
      unfold DataW.trod at ht; rw [hu] at ht
      split at ht <;> try (simp_all; done)
      rename_i b _
      refine ⟨[.bool b], ⟨_, _, rfl, ⟨b, rfl⟩, rfl⟩, by simp [RepL, RepC]⟩
    · rename_i k hu
      cases h
      unfold DataW.trod at ht; rw [hu] at ht
      split at ht <;> try (simp_all; done)
      rename_i k1 k2 x h1
      simp only [Option.some.injEq, TypeDesc.int.injEq] at h1
      subst h1
      split at ht
      · rename_i hk
        obtain ⟨rfl, hwf⟩ := hk
        exact ⟨[.int _ x], ⟨_, _, rfl, ⟨x, rfl, hwf⟩, rfl⟩, by simp [RepL, RepC]⟩
      · cases ht
    · rename_i hu
      cases h
      unfold DataW.trod at ht; rw [hu] at ht
      split at ht <;> try (simp_all; done)
      rename_i s _
      split at ht
      · rename_i hs
        simp only [Option.some.injEq, Prod.mk.injEq] at ht
        obtain ⟨rfl, rfl⟩ := ht
        simp only [DataW.weights, List.all_cons, List.all_nil, Bool.and_true, decide_eq_true_eq] at hw
        refine ⟨[.str s.data.toList], ⟨_, _, rfl, ⟨_, rfl, ?_⟩, rfl⟩, ?_⟩
        · have := reachBytes_lt; omega
        · obtain ⟨s⟩ := s
          simp [RepL, RepC]
      · cases ht
    · rename_i e hu
      split at h
      case h_2 => cases h
      rename_i l hl
      split at h
      case isFalse => cases h
      rename_i hk
      cases h
      unfold DataW.trod at ht; rw [hu] at ht
      split at ht <;> try (simp_all; done)
      · refine ⟨[.nils], ⟨_, _, rfl, ⟨[], .inr ⟨rfl, rfl⟩, by simp, by simp⟩, rfl⟩, by simp [RepL, RepC]⟩
      · rename_i e' a len cap h1
        simp only [Option.some.injEq, TypeDesc.slice.injEq] at h1
        subst h1
        simp only at ht
        split at ht
        case isFalse => cases ht
        rename_i hb
        rw [Option.bind_eq_some_iff] at ht
        obtain ⟨xs, e1, e2⟩ := ht
        rw [Option.map_eq_some_iff] at e2
        obtain ⟨rest, e3, e4⟩ := e2
        simp only [Prod.mk.injEq] at e4
        obtain ⟨rfl, rfl⟩ := e4
        simp only [DataW.weights, hu, List.all_cons, List.all_append, Bool.and_eq_true, decide_eq_true_eq] at hw
        obtain ⟨w1, w2, w3⟩ := hw
        rw [List.range_eq_range'] at e1
        obtain ⟨es, vs, g1, g2, g3, g4, g5⟩ := reads_rows (F := F) hk.1 (trod_ty m n e l hl) len 0 xs e1 w2
        refine ⟨[.sl es], ⟨_, _, rfl, ⟨es, .inl rfl, ?_, g3⟩, rfl⟩, ?_⟩
        · have h5 := reachBytes_lt
          have h6 : es.length * 1 ≤ (xs.length + rest.length) * P.bytesOf e := Nat.mul_le_mul (by omega) hk.2
          simp only [List.length_map] at w1
          omega
        · simp only [RepL]
          refine ⟨_, _, rfl, ?_, rfl⟩
          simp only [RepC]
          refine ⟨some a, cap, vs, P.cellsOf e, by rw [g1], by omega, g4, fun r hr => by rw [(g3 r hr).length, hk.1], fun _ => ⟨a, rfl, fun j v hj => ?_⟩⟩
          have := g5 j v hj
          simpa using this
    · rename_i fs hu
      split at h
      case h_2 => cases h
      rename_i l hl
      split at h
      case isFalse => cases h
      rename_i hk
      cases h
      unfold DataW.trod at ht; rw [hu] at ht
      split at ht <;> try (simp_all; done)
      rename_i fs' h1
      simp only [Option.some.injEq, TypeDesc.struct.injEq] at h1
      subst h1
      split at ht
      case isFalse => cases ht
      rename_i hc
      rw [Option.map_eq_some_iff] at ht
      obtain ⟨xs, e1, e2⟩ := ht
      simp only [Prod.mk.injEq] at e2
      obtain ⟨rfl, rfl⟩ := e2
      simp only [DataW.weights, hu] at hw
      obtain ⟨ds, g1, g2⟩ := reads_flds (F := F) (n := n) (fun t shs h => trod_ty m n t shs h) fs.toList 0 xs _ e1 hl hw (by omega)
      exact ⟨ds, g1, by simpa using g2⟩
    · cases h
theorem arg_struct {t : TypeId} {fs : Array Field} {m : Nat} {shs : List Sh} {base : Nat} {v : Value} {d : DataW H} {ps : List MemPlace} (hu : P.underlying t = some (.struct fs)) (hsh : tySh P m t = some shs) (hv : Value.okWide P w .any base t v) (h : DataW.Trod enc P w 0 sp true t v d ps) (hw : (d.weights P t).all (· ≤ reachBytes) = true) :
    ∃ ds, HasShL shs ds ∧ RepC F (cellM w) (.agg ds) v := by
  obtain ⟨cs, rfl, _⟩ := okWide_struct hu hv
  obtain ⟨n, hn⟩ := h
  obtain ⟨ds, g1, g2⟩ := trod_ty (F := F) m n t shs hsh _ d ps hn hw
  exact ⟨ds, g1, by simp only [RepC]; exact ⟨cs.toList, by simp, g2⟩⟩
theorem arg_slice {t e : TypeId} {m : Nat} {sh : Sh} {base : Nat} {v : Value} {d : DataW H} {ps : List MemPlace} (hu : P.underlying t = some (.slice e)) (hsh : tySh P m t = some [sh]) (hv : Value.okWide P w .any base t v) (h : DataW.Trod enc P w 0 sp true t v d ps) (hw : (d.weights P t).all (· ≤ reachBytes) = true) :
    ∃ x, HasSh sh x ∧ RepC F (cellM w) x v := by
  obtain ⟨a, len, cap, rfl⟩ := okWide_slice hu hv
  obtain ⟨n, hn⟩ := h
  obtain ⟨ds, g1, g2⟩ := trod_ty (F := F) m n t [sh] hsh _ d ps hn hw
  simp only [HasShL] at g1
  obtain ⟨x, r, rfl, g3, rfl⟩ := g1
  simp only [Value.cells, RepL] at g2
  obtain ⟨v', r', e, g4, rfl⟩ := g2
  simp at e
  exact ⟨x, g3, by rw [e]; exact g4⟩
theorem arg_int {t : TypeId} {k : IntKind} {base : Nat} {v : Value} {d : DataW H} {ps : List MemPlace} (hu : P.underlying t = some (.int k)) (hv : Value.okWide P w .any base t v) (h : DataW.Trod enc P w 0 sp true t v d ps) :
    ∃ n, (Lit.int k n).wf = true ∧ RepC F (cellM w) (.int k n) v := by
  obtain ⟨n, rfl, _, _, hw⟩ := open_int hu hv h
  exact ⟨n, hw, rfl⟩
end
theorem rows_map {α : Type} {f : α → List D} {es : List (List D)} (h : ∀ e ∈ es, ∃ x, e = f x) : ∃ xs : List α, es = xs.map f := by
  induction es with
  | nil => exact ⟨[], rfl⟩
  | cons e es ih =>
    obtain ⟨x, rfl⟩ := h e (by simp)
    obtain ⟨xs, rfl⟩ := ih (fun e he => h e (by simp [he]))
    exact ⟨x :: xs, rfl⟩
end Go.Gv
namespace Go.Gv
def tblOk (P : Program) (F : Fid) (prog : Nat → Option NFun) (tbl : List (Nat × Nat)) : Bool := tbl.all fun p => named P p.2 && match prog p.1 with
  | some nf => funOk P F p.2 nf
  | none => true
theorem lookup_in {tbl : List (Nat × Nat)} {g f : Nat} (h : tbl.lookup g = some f) : (g, f) ∈ tbl := by
  induction tbl with
  | nil => cases h
  | cons p r ih =>
    obtain ⟨a, b⟩ := p
    rw [List.lookup_cons] at h
    cases e : g == a with
    | true => rw [e] at h; simp at e h; subst e; subst h; simp
    | false => rw [e] at h; simp [ih h]
theorem seat {P : Program} {tbl : List (Nat × Nat)} {ty : Nat → TypeId} {prog : Nat → Option NFun} (hm : P.follows .mixedOrders = true) (hl : laidOutB P = true) (h : tblOk P ⟨P, fun g => tbl.lookup g, ty⟩ prog tbl = true) :
    CSound P ⟨P, fun g => tbl.lookup g, ty⟩ (runsC P ⟨P, fun g => tbl.lookup g, ty⟩) ∧ Closed prog (runsC P ⟨P, fun g => tbl.lookup g, ty⟩) := by
  have key : ∀ g f, tbl.lookup g = some f → named P f = true ∧ ∀ nf, prog g = some nf → funOk P ⟨P, fun g => tbl.lookup g, ty⟩ f nf = true := fun g f e => by
    have := List.all_eq_true.1 h _ (lookup_in e)
    simp only [Bool.and_eq_true] at this
    refine ⟨this.1, fun nf hnf => ?_⟩
    have := this.2
    rw [hnf] at this
    exact this
  exact runs_closed hm (fun g f e => (key g f e).1) hl rfl (fun g f nf e hp => (key g f e).2 nf hp)
end Go.Gv

namespace Go.Gv
open Go.Proofs
def TryzTbl : List (Nat × Nat) := [(0, 2), (424, 9), (425, 10), (426, 11), (427, 12), (428, 13), (429, 14), (430, 15), (433, 18), (434, 19), (435, 20), (440, 21), (441, 23), (53, 24), (442, 26), (443, 27), (450, 37), (452, 39), (453, 40), (454, 41), (455, 42), (456, 43), (45, 44), (457, 45), (458, 46), (459, 47), (460, 48), (461, 49), (462, 50), (463, 51), (464, 52), (465, 53), (467, 55), (470, 58), (471, 59), (472, 60), (33, 61), (479, 62), (473, 63), (474, 65), (44, 66), (52, 67), (480, 68), (51, 69), (60, 70), (61, 71), (475, 72), (481, 73), (482, 74), (181, 75), (483, 76), (49, 78), (485, 83), (486, 84), (487, 85), (175, 86), (488, 87), (194, 88), (489, 89), (490, 90), (491, 91), (492, 92), (493, 93), (494, 94), (495, 95), (496, 96), (497, 97), (164, 98), (498, 99), (171, 100), (499, 101), (500, 102), (501, 103), (503, 105), (504, 106), (48, 107), (58, 108), (59, 109), (73, 110), (74, 111), (75, 112), (76, 113), (77, 114), (47, 115), (506, 116), (169, 117), (54, 121), (507, 122), (199, 123), (508, 124), (200, 125), (201, 126), (509, 127), (510, 128), (511, 129), (168, 130), (170, 131), (182, 132), (512, 133), (514, 135), (515, 136), (516, 137), (517, 138), (518, 139), (519, 140), (55, 141), (70, 142), (71, 143), (72, 144), (90, 145), (91, 146), (92, 147), (176, 148), (62, 151), (63, 152), (64, 153), (172, 154), (173, 155), (174, 156), (177, 157), (178, 158), (179, 159), (180, 160), (11, 161), (520, 162), (521, 163), (522, 164), (366, 165), (523, 166), (411, 167), (524, 168), (88, 171), (89, 172), (96, 173), (97, 174), (98, 175), (99, 176), (100, 177), (101, 178), (102, 179), (78, 185), (79, 186), (183, 187), (184, 188), (185, 189), (35, 190), (42, 191), (299, 194), (103, 196), (104, 197), (105, 198), (106, 199), (107, 200), (108, 201), (109, 202), (110, 203), (111, 204), (112, 223), (113, 224)]
def TryzTys : List (Nat × Nat) := [(0, 9), (1, 4)]
set_option maxRecDepth 100000 in
theorem Tryz_all : tblOk Tryz.prog ⟨Tryz.prog, fun g => TryzTbl.lookup g, fun t => (TryzTys.lookup t).getD 0⟩ prog TryzTbl = true := by kernel_rfl
end Go.Gv

namespace Go.Proofs
open Go.Shelf
def Tryz.lays189_ren : Go.Shelf.Ren := ⟨fun | 189 => 165 | 125 => 193 | 257 => 192 | 128 => 221 | 129 => 204 | 294 => 213 | 295 => 214 | 296 => 215 | 297 => 216 | 298 => 217 | 299 => 218 | 216 => 167 | 300 => 219 | 301 => 220 | 328 => 230 | 329 => 231 | 330 => 232 | 331 => 233 | 332 => 234 | 215 => 194 | 343 => 235 | n => n, fun | 28 => 122 | 3 => 3 | 46 => 168 | 0 => 0 | 51 => 115 | 53 => 138 | 4 => 4 | 183 => 230 | 182 => 229 | 131 => 158 | 5 => 5 | 9 => 9 | 218 => 239 | 222 => 243 | 228 => 245 | 229 => 67 | n => n, fun | n => n⟩
theorem Tryz.lays189 : Go.Proofs.Lays.n189 Tryz.prog Tryz.lays189_ren := {
  mixed := by kernel_rfl
  f125 := Tryz.func193.trans (congrArg some (by kernel_rfl))
  f128 := Tryz.func221.trans (congrArg some (by kernel_rfl))
  f129 := Tryz.func204.trans (congrArg some (by kernel_rfl))
  f189 := Tryz.func165.trans (congrArg some (by kernel_rfl))
  f215 := Tryz.func194.trans (congrArg some (by kernel_rfl))
  f216 := Tryz.func167.trans (congrArg some (by kernel_rfl))
  f257 := Tryz.func192.trans (congrArg some (by kernel_rfl))
  f294 := Tryz.func213.trans (congrArg some (by kernel_rfl))
  f295 := Tryz.func214.trans (congrArg some (by kernel_rfl))
  f296 := Tryz.func215.trans (congrArg some (by kernel_rfl))
  f297 := Tryz.func216.trans (congrArg some (by kernel_rfl))
  f298 := Tryz.func217.trans (congrArg some (by kernel_rfl))
  f299 := Tryz.func218.trans (congrArg some (by kernel_rfl))
  f300 := Tryz.func219.trans (congrArg some (by kernel_rfl))
  f301 := Tryz.func220.trans (congrArg some (by kernel_rfl))
  f328 := Tryz.func230.trans (congrArg some (by kernel_rfl))
  f329 := Tryz.func231.trans (congrArg some (by kernel_rfl))
  f330 := Tryz.func232.trans (congrArg some (by kernel_rfl))
  f331 := Tryz.func233.trans (congrArg some (by kernel_rfl))
  f332 := Tryz.func234.trans (congrArg some (by kernel_rfl))
  f343 := Tryz.func235.trans (congrArg some (by kernel_rfl))
  t0 := Tryz.underlying0
  a0 := Tryz.isAgg0
  z0 := Tryz.sizeOf0
  v0 := Tryz.zeroValue0
  t3 := Tryz.underlying3
  a3 := Tryz.isAgg3
  z3 := Tryz.sizeOf3
  v3 := Tryz.zeroValue3
  t4 := Tryz.underlying4
  a4 := Tryz.isAgg4
  z4 := Tryz.sizeOf4
  v4 := Tryz.zeroValue4
  t5 := Tryz.underlying5
  a5 := Tryz.isAgg5
  z5 := Tryz.sizeOf5
  v5 := Tryz.zeroValue5
  t9 := Tryz.underlying9
  a9 := Tryz.isAgg9
  z9 := Tryz.sizeOf9
  v9 := Tryz.zeroValue9
  t28 := Tryz.underlying122
  a28 := Tryz.isAgg122
  z28 := Tryz.sizeOf122
  v28 := Tryz.zeroValue122
  t46 := Tryz.underlying168
  a46 := Tryz.isAgg168
  z46 := Tryz.sizeOf168
  v46 := Tryz.zeroValue168
  t51 := Tryz.underlying115
  a51 := Tryz.isAgg115
  z51 := Tryz.sizeOf115
  v51 := Tryz.zeroValue115
  t53 := Tryz.underlying138
  a53 := Tryz.isAgg138
  z53 := Tryz.sizeOf138
  v53 := Tryz.zeroValue138
  t131 := Tryz.underlying158
  a131 := Tryz.isAgg158
  z131 := Tryz.sizeOf158
  v131 := Tryz.zeroValue158
  t182 := Tryz.underlying229
  a182 := Tryz.isAgg229
  z182 := Tryz.sizeOf229
  v182 := Tryz.zeroValue229
  t183 := Tryz.underlying230
  a183 := Tryz.isAgg230
  z183 := Tryz.sizeOf230
  v183 := Tryz.zeroValue230
  t218 := Tryz.underlying239
  a218 := Tryz.isAgg239
  z218 := Tryz.sizeOf239
  v218 := Tryz.zeroValue239
  t222 := Tryz.underlying243
  a222 := Tryz.isAgg243
  z222 := Tryz.sizeOf243
  v222 := Tryz.zeroValue243
  t228 := Tryz.underlying245
  a228 := Tryz.isAgg245
  z228 := Tryz.sizeOf245
  v228 := Tryz.zeroValue245
  t229 := Tryz.underlying67
  a229 := Tryz.isAgg67
  z229 := Tryz.sizeOf67
  v229 := Tryz.zeroValue67 }
def Tryz.laysNm220_ren : Go.Shelf.Ren := ⟨fun | 20 => 166 | n => n, fun | 22 => 122 | 3 => 3 | 4 => 4 | 0 => 0 | n => n, fun | n => n⟩
theorem Tryz.laysNm220 : Go.Proofs.Lays2.n20 Tryz.prog Tryz.laysNm220_ren := {
  mixed := by kernel_rfl
  f20 := Tryz.func166.trans (congrArg some (by kernel_rfl))
  t0 := Tryz.underlying0
  a0 := Tryz.isAgg0
  z0 := Tryz.sizeOf0
  v0 := Tryz.zeroValue0
  t3 := Tryz.underlying3
  a3 := Tryz.isAgg3
  z3 := Tryz.sizeOf3
  v3 := Tryz.zeroValue3
  t4 := Tryz.underlying4
  a4 := Tryz.isAgg4
  z4 := Tryz.sizeOf4
  v4 := Tryz.zeroValue4
  t22 := Tryz.underlying122
  a22 := Tryz.isAgg122
  z22 := Tryz.sizeOf122
  v22 := Tryz.zeroValue122
  i3 := by kernel_rfl }
def Tryz.laysNm221_ren : Go.Shelf.Ren := ⟨fun | 21 => 140 | 27 => 169 | 28 => 170 | 35 => 195 | 39 => 222 | n => n, fun | 22 => 122 | 3 => 3 | 4 => 4 | 0 => 0 | n => n, fun | n => n⟩
theorem Tryz.laysNm221 : Go.Proofs.Lays2.n21 Tryz.prog Tryz.laysNm221_ren := {
  mixed := by kernel_rfl
  f21 := Tryz.func140.trans (congrArg some (by kernel_rfl))
  f27 := Tryz.func169.trans (congrArg some (by kernel_rfl))
  f28 := Tryz.func170.trans (congrArg some (by kernel_rfl))
  f35 := Tryz.func195.trans (congrArg some (by kernel_rfl))
  f39 := Tryz.func222.trans (congrArg some (by kernel_rfl))
  t0 := Tryz.underlying0
  a0 := Tryz.isAgg0
  z0 := Tryz.sizeOf0
  v0 := Tryz.zeroValue0
  t3 := Tryz.underlying3
  a3 := Tryz.isAgg3
  z3 := Tryz.sizeOf3
  v3 := Tryz.zeroValue3
  t4 := Tryz.underlying4
  a4 := Tryz.isAgg4
  z4 := Tryz.sizeOf4
  v4 := Tryz.zeroValue4
  t22 := Tryz.underlying122
  a22 := Tryz.isAgg122
  z22 := Tryz.sizeOf122
  v22 := Tryz.zeroValue122
  i3 := by kernel_rfl }
end Go.Proofs

namespace Go.Gv
open Go.Sort
section
variable {P : Program} {F : Fid} {α : Type} [Inhabited α]
def rowsOf (encD : α → D) (d : Array α) : List (List D) := d.toList.map fun x => [encD x]
theorem runsS_of_sort {f : FuncId} (enc : α → Value) (encD : α → D) (hflat : ∀ M x u, RepC F M (encD x) u → u = enc x) (hrep : ∀ M x, RepC F M (encD x) (enc x)) (d d' : Array α) (hsz : d'.size = d.size) (ds : List D)
    (hnone : d.size = 0 → ∀ (M : Mem) (w : World) (vs : List Value) (A : Option Addr), (∀ p v, M p = some v → w.cell? p = some v) → RepL F M ds vs → Calls P f (.slice A 0 0 :: vs).toArray w fun e w' => e = .returned (.tuple #[]) ∧ ∃ n os, w' = grow (Sort.ahead w n) os)
    (hrun : ∀ (M : Mem) (w : World) (vs : List Value) (blk off cap : Nat), (∀ p v, M p = some v → w.cell? p = some v) → (∀ p : Addr, p.block = blk → M p = none) → RepL F M ds vs → Holds enc w blk off d → blk < w.heap.size →
      Calls P f (.slice (some ⟨blk, off, none⟩) d.size cap :: vs).toArray w fun e w' => e = .returned (.tuple #[]) ∧ ∃ n os, w' = grow (putRow enc (Sort.ahead w n) blk off d') os) : RunsS P F f 1 (rowsOf encD d) ds (rowsOf encD d') := by
  intro M w vs hh r
  have hl : (rowsOf encD d).length = d.size := by simp [rowsOf]
  refine ⟨fun e A => ?_, fun b o T us cap hM hb hcell hcap hle hu hc => ?_⟩
  · have h0 : d.size = 0 := by rw [← hl, e]; rfl
    refine (hnone h0 M w vs A hh r).mono ?_
    rintro e0 w' ⟨rfl, n, os, rfl⟩
    exact ⟨rfl, rfl, rfl, rfl, by simp [grow, Sort.ahead], fun k hk => by simp only [grow, Sort.ahead]; rw [Array.getElem?_append_left hk], Nat.le_add_right _ _⟩
  · rw [hl] at hcap ⊢
    have hH : Holds enc w b o d := fun j hj => by
      obtain ⟨u, k1, k2⟩ := hc j [encD d[j]] 0 (encD d[j]) (by simp [rowsOf, hj]) rfl
      have := hflat _ _ _ k2
      subst this
      have e1 : d[j]! = d[j] := getElem!_pos d j hj
      rw [e1]
      have k3 : us[o + j]? = some (enc d[j]) := by simpa using k1
      constructor
      · simp [World.cell?, hcell, k3]
      · simp [World.frozen?, hcell]
    refine (hrun M w vs b o cap hh hM r hH hb).mono ?_
    rintro e0 w' ⟨rfl, n, os, rfl⟩
    have hput : (grow (putRow enc (Sort.ahead w n) b o d') os).heap[b]? = some (.cells (putCells enc o d' us.toArray) T (0, 0)) := by
      simp only [grow, putRow, mapBlock, Sort.ahead]
      rw [Array.getElem?_append_left (by simpa using hb), Array.getElem?_modify, if_pos rfl, hcell]
      rfl
    refine ⟨rfl, (putCells enc o d' us.toArray).toList, by rw [Array.toArray_toList]; exact hput, by simp [putCells], fun i r off x hi hr => ?_, ⟨rfl, rfl, rfl, by simp [grow, putRow, mapBlock, Sort.ahead], fun k hk hne => ?_, Nat.le_add_right _ _⟩⟩
    · simp only [rowsOf, List.getElem?_map, Option.map_eq_some_iff] at hi
      obtain ⟨y, h1, rfl⟩ := hi
      have ho : off = 0 := by
        have := (List.getElem?_eq_some_iff.1 hr).1
        simpa using this
      subst ho
      simp only [List.getElem?_cons_zero, Option.some.injEq] at hr
      subst hr
      have hi2 : i < d'.size := by have := (List.getElem?_eq_some_iff.1 h1).1; simpa using this
      have hy : d'[i]! = y := by
        rw [getElem!_pos d' i hi2]
        have := (List.getElem?_eq_some_iff.1 h1).2
        simpa using this
      refine ⟨enc y, ?_, hrep _ _⟩
      have hlt : o + i < us.length := by
        have : o + cap * 1 ≤ us.length := hle
        omega
      rw [Nat.mul_one, Nat.add_zero, Array.getElem?_toList]
      simp only [putCells, Array.getElem?_mapIdx, List.getElem?_toArray]
      rw [List.getElem?_eq_getElem hlt]
      simp only [Option.map_some]
      rw [if_pos ⟨by omega, by omega⟩, show o + i - o = i by omega, hy]
    · simp only [grow, putRow, mapBlock, Sort.ahead]
      rw [Array.getElem?_append_left (by simpa using hk), Array.getElem?_modify, if_neg (Ne.symm hne)]
end
end Go.Gv

namespace Go.Gv
open Go.Sort Go.Proofs Go.Shelf
section
variable {P : Program} {F : Fid} {ρ : Ren}
def intR (zs : List Int) : List (List D) := zs.map fun n => [.int .i64 n]
theorem intR_get {zs : List Int} {i : Nat} {r : List D} {off : Nat} {d : D} (h1 : (intR zs)[i]? = some r) (h2 : r[off]? = some d) : ∃ x, zs[i]? = some x ∧ off = 0 ∧ d = .int .i64 x := by
  simp only [intR, List.getElem?_map, Option.map_eq_some_iff] at h1
  obtain ⟨x, h1, rfl⟩ := h1
  have ho : off = 0 := by have := (List.getElem?_eq_some_iff.1 h2).1; simpa using this
  subst ho
  simp only [List.getElem?_cons_zero, Option.some.injEq] at h2
  exact ⟨x, h1, rfl, h2.symm⟩
theorem intR_cells {M : Mem} {zs : List Int} {us : List Value} {o : Nat} (hc : ∀ i r off d, (intR zs)[i]? = some r → r[off]? = some d → ∃ u, us[o + i * 1 + off]? = some u ∧ RepC F M d u) : ∀ j x, zs[j]? = some x → us[o + j]? = some (.int .i64 x) := by
  intro j x hj
  obtain ⟨u, k1, k2⟩ := hc j [.int .i64 x] 0 (.int .i64 x) (by simp [intR, hj]) rfl
  simp only [RepC] at k2
  subst k2
  simpa using k1
theorem runsC_sort_all (Ly : Lays.n189 P ρ) {g : Nat} (hg : ∀ f, F g = some f → f = ρ.f 189) (zs : List Int) (hz : zs.length < 2 ^ 40) :
    runsC P F g [.own 1 (zs.map fun n => [.int .i64 n])] .any [.own 1 ((zs.mergeSort fun x y => decide (x ≤ y)).map fun n => [.int .i64 n]), .nilp] := by
  refine ⟨trivial, fun f hf => ⟨rfl, ?_⟩⟩
  obtain rfl := hg f hf
  have k := runsS_of_sort (P := P) (F := F) (f := ρ.f 189) (Value.int .i64) (D.int .i64) (fun M x u h => by simpa only [RepC] using h) (fun M x => by simp only [RepC]) zs.toArray (zs.mergeSort fun x y => decide (x ≤ y)).toArray (by simp [List.length_mergeSort]) []
    (fun h M w vs A hh r => by
      simp only [RepL] at r
      subst r
      refine (Any.slices_Sort_int_none Ly A 0 w).mono ?_
      rintro e w' ⟨rfl, rfl⟩
      exact ⟨rfl, 0, #[], by simp [grow, Sort.ahead]⟩)
    (fun M w vs blk off cap hh hM r hH hb => by
      simp only [RepL] at r
      subst r
      have := Any.slices_Sort_int Ly blk off cap zs w hH hb (by omega)
      simpa using this)
  simpa [rowsOf] using k
theorem runsC_compact (L : Lays2.n20 P ρ) {g : Nat} (hg : ∀ f, F g = some f → f = ρ.f 20) (zs : List Int) (hz : zs.length < 2 ^ 40) :
    runsC P F g [.own 1 (zs.map fun n => [.int .i64 n])] .any [.own 1 ((Lib.compact zs).map fun n => [.int .i64 n]), .nils, .nils] := by
  refine ⟨trivial, fun f hf => ⟨rfl, ?_⟩⟩
  obtain rfl := hg f hf
  intro M w vs hh
  have nil : ∀ {b : Option Nat}, RepAL F M w b [] vs → vs = [] := fun h => List.eq_nil_of_length_eq_zero h.1.symm
  refine ⟨fun e A r => ?_, fun b o T us cap r hM hb hcell hcap hmc hle hu hc => ?_⟩
  · rw [nil r]
    have h0 : zs = [] := by simpa using e
    subst h0
    refine (Any.slices_Compact_int_empty L A 0 w).mono ?_
    rintro e w' ⟨rfl, rfl⟩
    exact ⟨_, rfl, Bel.refl _, .inl ⟨rfl, A, rfl⟩⟩
  · rw [nil r]
    have hget := intR_cells hc
    have hl : (zs.map fun n => [D.int .i64 n]).length = zs.length := by simp
    rw [hl] at hcap ⊢
    have hH : Holds (Value.int .i64) w b o zs.toArray := fun j hj => by
      have hj2 : j < zs.length := by simpa using hj
      have e1 : zs.toArray[j]! = zs[j] := by rw [getElem!_pos zs.toArray j hj]; simp
      have k3 := hget j zs[j] (List.getElem?_eq_getElem hj2)
      rw [e1]
      exact ⟨by simp [World.cell?, hcell, k3], by simp [World.frozen?, hcell]⟩
    obtain ⟨d', hd'⟩ : ∃ d', d' = (Lib.compact zs ++ List.replicate (zs.length - (Lib.compact zs).length) 0).toArray := ⟨_, rfl⟩
    have hcl : (Lib.compact zs).length ≤ zs.length := by
      unfold Lib.compact Lib.compactUpTo
      rw [List.length_map]
      have := List.length_filter_le (Lib.keeps zs.toArray) (List.range zs.length)
      simpa using this
    have hsz : d'.size = zs.length := by rw [hd']; simp; omega
    refine (Any.slices_Compact_int L b o cap zs w hH (by omega) hcap).mono ?_
    rintro e w' ⟨rfl, q, rfl⟩
    rw [← hd']
    have hput : (putRow (Value.int .i64) (Sort.ahead w q) b o d').heap[b]? = some (.cells (putCells (Value.int .i64) o d' us.toArray) T (0, 0)) := by
      simp only [putRow, mapBlock, Sort.ahead]
      rw [Array.getElem?_modify, if_pos rfl, hcell]
      rfl
    refine ⟨_, rfl, (putCells (Value.int .i64) o d' us.toArray).toList, by rw [Array.toArray_toList]; exact hput, by simp [putCells], ⟨rfl, rfl, rfl, by simp [putRow, mapBlock, Sort.ahead], fun k hk hne => ?_, Nat.le_add_right _ _⟩, .inl ⟨by simp, by simp; omega, fun i r off d h1 h2 => ?_⟩⟩
    · simp only [putRow, mapBlock, Sort.ahead]
      rw [Array.getElem?_modify, if_neg (Ne.symm hne)]
    · obtain ⟨x, h3, rfl, rfl⟩ := intR_get h1 h2
      have hi : i < (Lib.compact zs).length := (List.getElem?_eq_some_iff.1 h3).1
      refine ⟨.int .i64 x, ?_, by simp only [RepC]⟩
      have hlt : o + i < us.length := by omega
      have hy : d'[i]! = x := by
        rw [getElem!_pos d' i (by omega)]
        have : d'[i]? = some x := by rw [hd']; simp [List.getElem?_append_left hi, h3]
        exact (Array.getElem?_eq_some_iff.1 this).2
      rw [Nat.mul_one, Nat.add_zero, Array.getElem?_toList]
      simp only [putCells, Array.getElem?_mapIdx, List.getElem?_toArray]
      rw [List.getElem?_eq_getElem hlt]
      simp only [Option.map_some]
      rw [if_pos ⟨by omega, by omega⟩, show o + i - o = i by omega, hy]
theorem ins_get {zs : List Int} {i : Nat} (hi : i ≤ zs.length) (x : Int) (j : Nat) : (zs.take i ++ x :: zs.drop i)[j]? = if j < i then zs[j]? else if j = i then some x else zs[j - 1]? := by
  have hl : (zs.take i).length = i := by simp; omega
  by_cases h1 : j < i
  · rw [if_pos h1, List.getElem?_append_left (by omega), List.getElem?_take_of_lt h1]
  · rw [if_neg h1, List.getElem?_append_right (by omega), hl]
    by_cases h2 : j = i
    · subst h2; simp
    · rw [if_neg h2, show j - i = (j - i - 1) + 1 by omega, List.getElem?_cons_succ, List.getElem?_drop]
      congr 1
      omega
theorem runsC_insert (L : Lays2.n21 P ρ) {g : Nat} (hg : ∀ f, F g = some f → f = ρ.f 21) (zs : List Int) (i : Nat) (x : Int) (hi : i ≤ zs.length) (hz : zs.length < 2 ^ 40) :
    runsC P F g [.own 1 (zs.map fun n => [.int .i64 n]), .int .i64 i, .own 1 [[.int .i64 x]]] .any [.own 1 ((zs.take i ++ x :: zs.drop i).map fun n => [.int .i64 n]), .nils, .nils] := by
  refine ⟨trivial, fun f hf => ⟨rfl, ?_⟩⟩
  obtain rfl := hg f hf
  intro M w vs hh
  have args : ∀ {b : Option Nat}, RepAL F M w b [.int .i64 i, .own 1 [[.int .i64 x]]] vs → ∃ (B o : Nat) (T : TypeId) (us : List Value) (cap : Nat), vs = [.int .i64 i, .slice (some ⟨B, o, none⟩) 1 cap] ∧ b ≠ some B ∧ w.heap[B]? = some (.cells us.toArray T (0, 0)) ∧ us[o]? = some (.int .i64 x) := by
    rintro b ⟨h1, h2⟩
    match vs, h1 with
    | [v0, v1], _ =>
      have a := h2 0 _ _ rfl rfl
      have c := h2 1 _ _ rfl rfl
      simp only [RepA, RepC] at a
      subst a
      rcases c with ⟨e, _⟩ | ⟨B, o, T, us, cap, rfl, h3, h4, h5, h6, h7⟩
      · cases e
      · obtain ⟨u, k1, k2⟩ := h7 0 [.int .i64 x] 0 (.int .i64 x) rfl rfl
        simp only [RepC] at k2
        subst k2
        exact ⟨B, o, T, us, cap, rfl, h3, h4, by simpa using k1⟩
  have cellOf : ∀ {w : World} {b : Nat} {us : List Value} {T : TypeId} {k : Nat} {v : Value}, w.heap[b]? = some (.cells us.toArray T (0, 0)) → us[k]? = some v → w.cell? ⟨b, k, none⟩ = some v := fun h1 h2 => by simp [World.cell?, h1, h2]
  have frz : ∀ {w : World} {b : Nat} {us : List Value} {T : TypeId} {k : Nat}, w.heap[b]? = some (.cells us.toArray T (0, 0)) → w.frozen? ⟨b, k, none⟩ = false := fun h1 => by simp [World.frozen?, h1]
  have one : ∀ v ∈ [Value.int .i64 x], v.oneCell' = true := by intro v hv; simp at hv; subst hv; rfl
  have hzc : (Value.int .i64 0).cells.size = 1 := rfl
  refine ⟨fun e A r => ?_, fun b o T us cap r hM hb hcell hcap hmc hle hu hc => ?_⟩
  · obtain ⟨B, o, T, us, cap, rfl, _, h4, h5⟩ := args r
    have h0 : zs = [] := by simpa using e
    subst h0
    have hi0 : i = 0 := by simpa using hi
    subst hi0
    refine (Any2.slices_Insert_int_end_grow L A 0 0 B o 1 cap [] [.int .i64 x] w (by omega) (by omega) (by omega) (by omega) rfl rfl (fun _ => rfl) (fun a _ j v hj => by simp at hj) (fun j v hj => by
      cases j with
      | zero => simp at hj; subst hj; exact cellOf h4 (by simpa using h5)
      | succ j => simp at hj) one).mono ?_
    rintro e w' ⟨rfl, rfl⟩
    obtain ⟨G, hG⟩ : ∃ G, G = grownCap w (0 + 1) 0 (ρ.t 3) := ⟨_, rfl⟩
    have g1 := grownCap_ge w (0 + 1) 0 (ρ.t 3)
    have g2 := grownCap_le_maxLen w (0 + 1) 0 (ρ.t 3) (by decide)
    rw [← hG] at g1 g2 ⊢
    refine ⟨_, rfl, Bel.drewAlloc _ _, .inr ⟨w.heap.size, 0, ρ.t 3, (([] ++ [Value.int .i64 x]).toArray ++ Builtin.zeroCells (Value.int .i64 0).cells (G - (0 + 1))).toList, G, by simp, Nat.le_refl _, ?_, by simpa using g1, ⟨?_, g2⟩, fun j r' off d h1 h2 => ?_⟩⟩
    · rw [Array.toArray_toList]; exact heap_alloc_new w.drew _
    · simp [size_zeroCells, hzc]; omega
    · obtain ⟨y, h3, rfl, rfl⟩ := intR_get h1 h2
      cases j with
      | zero => simp at h3; subst h3; exact ⟨.int .i64 x, by simp, by simp only [RepC]⟩
      | succ j => simp at h3
  · obtain ⟨B, o', T', us', cap', rfl, hne, h4, h5⟩ := args r
    have hBb : B ≠ b := fun e => hne (by rw [e])
    have hget := intR_cells hc
    have hl : (zs.map fun n => [D.int .i64 n]).length = zs.length := by simp
    have hlr : ((zs.take i ++ x :: zs.drop i).map fun n => [D.int .i64 n]).length = zs.length + 1 := by simp; omega
    rw [hl] at hcap ⊢
    rw [hlr]
    have hcs : ∀ j v, (zs.map (Value.int .i64))[j]? = some v → w.cell? ⟨b, o + j, none⟩ = some v := fun j v hj => by
      rw [List.getElem?_map, Option.map_eq_some_iff] at hj
      obtain ⟨y, hj, rfl⟩ := hj
      exact cellOf hcell (hget j y hj)
    have hvs : ∀ j v, [Value.int .i64 x][j]? = some v → w.cell? ⟨B, o' + j, none⟩ = some v := fun j v hj => by
      cases j with
      | zero => simp at hj; subst hj; exact cellOf h4 (by simpa using h5)
      | succ j => simp at hj
    have h1c : ∀ v ∈ zs.map (Value.int .i64), v.oneCell' = true := by
      intro v hv
      obtain ⟨y, _, rfl⟩ := List.mem_map.1 hv
      rfl
    have hus : o + cap ≤ us.length := by simpa using hle
    have here : ∀ j, j < zs.length + 1 → zs.length + 1 ≤ cap → (w.cell? ⟨b, o + j, none⟩).isSome = true := fun j hj hr => by
      have hlt : o + j < us.length := by omega
      rw [cellOf hcell (List.getElem?_eq_getElem hlt)]; rfl
    by_cases hroom : zs.length + 1 ≤ cap
    · -- in place
      have fin : ∀ (w' : World) (us2 : List Value) (n : Nat), us2.length = us.length → w'.heap[b]? = some (.cells us2.toArray T (0, 0)) → (∀ k, k ≠ b → w'.heap[k]? = w.heap[k]?) → w'.heap.size = w.heap.size → w'.os = w.os → w'.tape = w.tape → w'.output = w.output → w'.drawn = w.drawn + n →
          (∀ j y, (zs.take i ++ x :: zs.drop i)[j]? = some y → us2[o + j]? = some (.int .i64 y)) →
          ∃ v, Ending.returned (Value.slice (some ⟨b, o, none⟩) (zs.length + 1) cap) = .returned v ∧ ∃ us2 : List Value, w'.heap[b]? = some (.cells us2.toArray T (0, 0)) ∧ us2.length = us.length ∧ Ch (fun k => k = b) w w' ∧
            ((v = .slice (some ⟨b, o, none⟩) (zs.length + 1) cap ∧ zs.length + 1 ≤ cap ∧ ∀ i' r off d, ((zs.take i ++ x :: zs.drop i).map fun n => [D.int .i64 n])[i']? = some r → r[off]? = some d → ∃ u, us2[o + i' * 1 + off]? = some u ∧ RepC F M d u) ∨ NewRow F M w w' 1 ((zs.take i ++ x :: zs.drop i).map fun n => [D.int .i64 n]) v) := by
        intro w' us2 n e1 e2 e3 e4 e5 e6 e7 e8 e9
        refine ⟨_, rfl, us2, e2, e1, ⟨e5, e6, e7, Nat.le_of_eq e4.symm, fun k _ hk => e3 k hk, by omega⟩, .inl ⟨rfl, hroom, fun j r' off d h1 h2 => ?_⟩⟩
        obtain ⟨y, h3, rfl, rfl⟩ := intR_get h1 h2
        exact ⟨.int .i64 y, by simpa using e9 j y h3, by simp only [RepC]⟩
      rcases Nat.lt_or_eq_of_le hi with hlt | heq
      · refine (Any2.slices_Insert_int_shift L b o zs.length cap i B o' 1 cap' (zs.map (Value.int .i64)) [.int .i64 x] w hlt (by omega) hroom hmc hBb (by simp) rfl hcs (fun j hj => here j hj hroom) (fun j _ => frz hcell) hvs h1c one T' T us'.length us.length
          (by simp [World.shape?, h4]) (by simp [World.shape?, hcell]) (by omega) (frz h4) (frz h4)).mono ?_
        rintro e w' ⟨rfl, rfl⟩
        have hdl : ((zs.map (Value.int .i64)).drop i).length = zs.length - i := by simp
        obtain ⟨s1, s2, s3, s4, s5, s6, s7⟩ := setCells_spliced b T ((zs.map (Value.int .i64)).drop i) (o + (i + 1)) us w.drew (by exact hcell) (by rw [hdl]; omega)
        obtain ⟨us1, hu1⟩ : ∃ us1, us1 = us.take (o + (i + 1)) ++ (zs.map (Value.int .i64)).drop i ++ us.drop (o + (i + 1) + ((zs.map (Value.int .i64)).drop i).length) := ⟨_, rfl⟩
        rw [← hu1] at s1
        have hl1 : us1.length = us.length := by rw [hu1]; simp; omega
        obtain ⟨t1, t2, t3, t4, t5, t6, t7⟩ := setCells_spliced b T [Value.int .i64 x] (o + i) us1 _ s1 (by simp; omega)
        have g1 := fun y => splice_get (vs := us) (us := (zs.map (Value.int .i64)).drop i) (q := o + (i + 1)) (n := zs.length - i) (x := y) hdl (by omega)
        have g2 := fun y => splice_get (vs := us1) (us := [Value.int .i64 x]) (q := o + i) (n := 1) (x := y) rfl (by omega)
        rw [hdl] at hu1
        rw [← hu1] at g1
        refine fin _ _ 1 (by simp; omega) t1 (fun k hk => (t2 k hk).trans (s2 k hk)) (t3.trans s3) (t4.trans s4) (t5.trans s5) (t6.trans s6) (t7.trans s7) (fun j y hj => ?_)
        have hjl : j < zs.length + 1 := by have := (List.getElem?_eq_some_iff.1 hj).1; simp at this; omega
        rw [ins_get hi] at hj
        show (us1.take (o + i) ++ [Value.int .i64 x] ++ us1.drop (o + i + 1))[o + j]? = _
        rw [g2]
        by_cases c1 : j < i
        · rw [if_pos c1] at hj
          rw [if_neg (by omega), g1, if_neg (by omega)]
          exact hget j y hj
        · rw [if_neg c1] at hj
          by_cases c2 : j = i
          · subst c2
            rw [if_pos rfl] at hj
            rw [if_pos (by omega)]
            cases hj
            simp
          · rw [if_neg c2] at hj
            rw [if_neg (by omega), g1, if_pos (by omega), List.getElem?_drop, show i + (o + j - (o + (i + 1))) = j - 1 by omega, List.getElem?_map, hj]
            rfl
      · subst heq
        refine (Any2.slices_Insert_int_end_room L b o zs.length cap B o' 1 cap' [.int .i64 x] w (by omega) hroom hmc rfl (fun j hj => by
          have := here (zs.length + j) (by omega) hroom
          rwa [← Nat.add_assoc] at this) (fun j _ => frz hcell) hvs one).mono ?_
        rintro e w' ⟨rfl, rfl⟩
        obtain ⟨t1, t2, t3, t4, t5, t6, t7⟩ := setCells_spliced b T [Value.int .i64 x] (o + zs.length) us w hcell (by simp; omega)
        have g2 := fun y => splice_get (vs := us) (us := [Value.int .i64 x]) (q := o + zs.length) (n := 1) (x := y) rfl (by omega)
        refine fin _ _ 0 (by simp; omega) t1 t2 t3 t4 t5 t6 t7 (fun j y hj => ?_)
        have hjl : j < zs.length + 1 := by have := (List.getElem?_eq_some_iff.1 hj).1; simp at this; omega
        rw [ins_get (Nat.le_refl _)] at hj
        show (us.take (o + zs.length) ++ [Value.int .i64 x] ++ us.drop (o + zs.length + 1))[o + j]? = _
        rw [g2]
        by_cases c1 : j < zs.length
        · rw [if_pos c1] at hj
          rw [if_neg (by omega)]
          exact hget j y hj
        · have c2 : j = zs.length := by omega
          rw [if_neg c1, if_pos c2] at hj
          rw [if_pos (by omega)]
          cases hj
          rw [c2]
          simp
    · -- a new row
      have hroom' : cap < zs.length + 1 := by omega
      obtain ⟨G, hG⟩ : ∃ G, G = grownCap w (zs.length + 1) cap (ρ.t 3) := ⟨_, rfl⟩
      have g1 := grownCap_ge w (zs.length + 1) cap (ρ.t 3)
      have g2 := grownCap_le_maxLen w (zs.length + 1) cap (ρ.t 3) (by unfold maxLen; omega)
      rcases Nat.lt_or_eq_of_le hi with hlt | heq
      · refine (Any2.slices_Insert_int_grow L b o zs.length cap i B o' 1 cap' (zs.map (Value.int .i64)) [.int .i64 x] w hlt (by omega) hcap hroom' (by omega) (by simp) rfl hcs hvs h1c one).mono ?_
        rintro e w' ⟨rfl, rfl⟩
        rw [← hG] at g1 g2 ⊢
        have hdl : ((zs.map (Value.int .i64)).drop i).length = zs.length - i := by simp
        obtain ⟨row, hrow⟩ : ∃ row : Array Value, row = ((zs.map (Value.int .i64)).take i).toArray ++ Builtin.zeroCells (Value.int .i64 0).cells (zs.length + 1 - i) ++ Builtin.zeroCells (Value.int .i64 0).cells (G - (zs.length + 1)) := ⟨_, rfl⟩
        rw [← hrow]
        have hrl : row.toList.length = G := by rw [hrow]; simp [size_zeroCells, hzc]; omega
        have hnew : ((w.alloc (.cells row (ρ.t 3))).drew).heap[w.heap.size]? = some (.cells row.toList.toArray (ρ.t 3) (0, 0)) := by
          rw [Array.toArray_toList]; exact heap_alloc_new w _
        obtain ⟨s1, s2, s3, s4, s5, s6, s7⟩ := setCells_spliced w.heap.size (ρ.t 3) [Value.int .i64 x] i row.toList ((w.alloc (.cells row (ρ.t 3))).drew) hnew (by simp only [List.length_singleton]; omega)
        obtain ⟨us1, hu1⟩ : ∃ us1, us1 = row.toList.take i ++ [Value.int .i64 x] ++ row.toList.drop (i + [Value.int .i64 x].length) := ⟨_, rfl⟩
        rw [← hu1] at s1
        have hl1 : us1.length = G := by rw [hu1]; simp only [List.length_append, List.length_take, List.length_drop, List.length_singleton, hrl]; omega
        obtain ⟨t1, t2, t3, t4, t5, t6, t7⟩ := setCells_spliced w.heap.size (ρ.t 3) ((zs.map (Value.int .i64)).drop i) (i + 1) us1 ((((w.alloc (.cells row (ρ.t 3))).drew).setCells w.heap.size i [Value.int .i64 x]).drew) s1 (by rw [hdl]; omega)
        have gA := fun y => splice_get (vs := row.toList) (us := [Value.int .i64 x]) (q := i) (n := 1) (x := y) rfl (by omega)
        have gB := fun y => splice_get (vs := us1) (us := (zs.map (Value.int .i64)).drop i) (q := i + 1) (n := zs.length - i) (x := y) hdl (by omega)
        have ex : ∀ k, k ≠ w.heap.size → (w.alloc (.cells row (ρ.t 3))).heap[k]? = w.heap[k]? := fun k hk => by
          simp only [World.alloc]
          rw [Array.getElem?_push, if_neg hk]
        have exs : (w.alloc (.cells row (ρ.t 3))).heap.size = w.heap.size + 1 := by simp only [World.alloc, Array.size_push]
        have hall : ∀ k, k ≠ w.heap.size → (((((w.alloc (.cells row (ρ.t 3))).drew).setCells w.heap.size i [Value.int .i64 x]).drew).setCells w.heap.size (i + 1) ((zs.map (Value.int .i64)).drop i)).heap[k]? = w.heap[k]? := fun k hk => (t2 k hk).trans ((s2 k hk).trans (ex k hk))
        refine ⟨_, rfl, us, (hall b (by omega)).trans hcell, rfl, ⟨t4.trans s4, t5.trans s5, t6.trans s6, ?_, fun k hk _ => hall k (by omega), ?_⟩, .inr ⟨w.heap.size, 0, ρ.t 3, _, G, by rw [hlr], Nat.le_refl _, t1, by rw [hlr]; exact g1, ⟨?_, g2⟩, fun j r' off d h1 h2 => ?_⟩⟩
        · have : ((((w.alloc (.cells row (ρ.t 3))).drew).setCells w.heap.size i [Value.int .i64 x]).drew).heap.size = w.heap.size + 1 := s3.trans exs
          rw [t3, this]; omega
        · rw [t7]
          show w.drawn ≤ (((w.alloc (.cells row (ρ.t 3))).drew).setCells w.heap.size i [Value.int .i64 x]).drawn + 1
          rw [s7]
          show w.drawn ≤ w.drawn + 1 + 1
          omega
        · simp only [List.length_append, List.length_take, List.length_drop, hl1, List.length_map]; omega
        · obtain ⟨y, hj, rfl, rfl⟩ := intR_get h1 h2
          refine ⟨.int .i64 y, ?_, by simp only [RepC]⟩
          have hjl : j < zs.length + 1 := by have := (List.getElem?_eq_some_iff.1 hj).1; simp at this; omega
          rw [ins_get hi] at hj
          rw [Nat.zero_add, Nat.mul_one, Nat.add_zero, hdl, gB]
          by_cases c1 : j < i
          · rw [if_pos c1] at hj
            rw [if_neg (by omega), hu1]
            show (row.toList.take i ++ [Value.int .i64 x] ++ row.toList.drop (i + 1))[j]? = _
            rw [gA, if_neg (by omega), hrow]
            have hj2 : j < zs.length := (List.getElem?_eq_some_iff.1 hj).1
            simp only [Array.toList_append, List.append_assoc]
            rw [List.getElem?_append_left (by simp; omega)]
            simp only [List.getElem?_take_of_lt c1, List.getElem?_map, hj]
            rfl
          · rw [if_neg c1] at hj
            by_cases c2 : j = i
            · subst c2
              rw [if_pos rfl] at hj
              rw [if_neg (by omega), hu1]
              show (row.toList.take j ++ [Value.int .i64 x] ++ row.toList.drop (j + 1))[j]? = _
              rw [gA, if_pos (by omega)]
              cases hj
              simp
            · rw [if_neg c2] at hj
              rw [if_pos (by omega), List.getElem?_drop, show i + (j + 0 - (i + 1)) = j - 1 by omega, List.getElem?_map, hj]
              rfl
      · subst heq
        refine (Any2.slices_Insert_int_end_grow L (some ⟨b, o, none⟩) zs.length cap B o' 1 cap' (zs.map (Value.int .i64)) [.int .i64 x] w (by omega) hcap hroom' (by omega) (by simp) rfl (fun e => by cases e) (fun a ha j v hj => by
          cases ha
          rw [Addr.add_lit]
          exact hcs j v hj) hvs one).mono ?_
        rintro e w' ⟨rfl, rfl⟩
        rw [← hG] at g1 g2 ⊢
        obtain ⟨row, hrow⟩ : ∃ row : Array Value, row = (zs.map (Value.int .i64) ++ [Value.int .i64 x]).toArray ++ Builtin.zeroCells (Value.int .i64 0).cells (G - (zs.length + 1)) := ⟨_, rfl⟩
        rw [← hrow]
        have hrl : row.toList.length = G := by rw [hrow]; simp [size_zeroCells, hzc]; omega
        have hbel := Bel.drewAlloc w (.cells row (ρ.t 3))
        refine ⟨_, rfl, us, (hbel.block b hb).trans hcell, rfl, Ch.of_below hbel _, .inr ⟨w.heap.size, 0, ρ.t 3, row.toList, G, by rw [hlr], Nat.le_refl _, by rw [Array.toArray_toList]; exact heap_alloc_new w.drew _, by rw [hlr]; exact g1, ⟨by omega, g2⟩, fun j r' off d h1 h2 => ?_⟩⟩
        obtain ⟨y, hj, rfl, rfl⟩ := intR_get h1 h2
        refine ⟨.int .i64 y, ?_, by simp only [RepC]⟩
        have hjl : j < zs.length + 1 := by have := (List.getElem?_eq_some_iff.1 hj).1; simp at this; omega
        rw [ins_get (Nat.le_refl _)] at hj
        rw [Nat.zero_add, Nat.mul_one, Nat.add_zero, hrow]
        simp only [Array.toList_append]
        rw [List.getElem?_append_left (by simp; omega)]
        by_cases c1 : j < zs.length
        · rw [if_pos c1] at hj
          rw [List.getElem?_append_left (by simpa using c1), List.getElem?_map, hj]
          rfl
        · have c2 : j = zs.length := by omega
          rw [if_neg c1, if_pos c2] at hj
          cases hj
          rw [List.getElem?_append_right (by simp; omega)]
          simp [c2]
end
end Go.Gv

namespace Go.Gv
structure Tag {α : Type _} (x : α) : Type where
@[simp] theorem isV_any : isV (.any) = true := _root_.id rfl
@[simp] theorem isV_int {k n} : isV (.int k n) = true := _root_.id rfl
@[simp] theorem isV_bool {b} : isV (.bool b) = true := _root_.id rfl
@[simp] theorem isV_str {s} : isV (.str s) = true := _root_.id rfl
@[simp] theorem isV_nilp : isV (.nilp) = true := _root_.id rfl
@[simp] theorem isV_nils : isV (.nils) = true := _root_.id rfl
@[simp] theorem isV_agg {ds} : isV (.agg ds) = true := _root_.id rfl
@[simp] theorem isV_tup {ds} : isV (.tup ds) = true := _root_.id rfl
@[simp] theorem isV_sl {es} : isV (.sl es) = true := _root_.id rfl
@[simp] theorem isV_ptr {ds} : isV (.ptr ds) = true := _root_.id rfl
@[simp] theorem isV_fn {g ds} : isV (.fn g ds) = true := _root_.id rfl
@[simp] theorem isV_own {sz es} : isV (.own sz es) = false := _root_.id rfl
@[simp] theorem isV_blk {sz es} : isV (.blk sz es) = false := _root_.id rfl
@[simp] theorem isV_mp {kt et ks vs} : isV (.mp kt et ks vs) = false := _root_.id rfl
@[simp] theorem isV_mrf {b} : isV (.mrf b) = false := _root_.id rfl
@[simp] theorem isV_ref {p k n} : isV (.ref p k n) = false := _root_.id rfl
@[simp] theorem isV_adr {p i off} : isV (.adr p i off) = false := _root_.id rfl
@[simp] theorem isV_agx {ds} : isV (.agx ds) = false := _root_.id rfl
@[simp] theorem isV_tpx {ds} : isV (.tpx ds) = false := _root_.id rfl
@[simp] theorem isV_ptx {ds} : isV (.ptx ds) = false := _root_.id rfl
@[simp] theorem isV_fnx {g ds} : isV (.fnx g ds) = false := _root_.id rfl
@[simp] theorem isK_any : isK (.any) = false := _root_.id rfl
@[simp] theorem isK_int {k n} : isK (.int k n) = true := _root_.id rfl
@[simp] theorem isK_bool {b} : isK (.bool b) = true := _root_.id rfl
@[simp] theorem isK_str {s} : isK (.str s) = true := _root_.id rfl
@[simp] theorem isK_nilp : isK (.nilp) = true := _root_.id rfl
@[simp] theorem isK_nils : isK (.nils) = true := _root_.id rfl
@[simp] theorem isK_agg {ds} : isK (.agg ds) = true := _root_.id rfl
@[simp] theorem isK_tup {ds} : isK (.tup ds) = true := _root_.id rfl
@[simp] theorem isK_sl {es} : isK (.sl es) = true := _root_.id rfl
@[simp] theorem isK_ptr {ds} : isK (.ptr ds) = true := _root_.id rfl
@[simp] theorem isK_fn {g ds} : isK (.fn g ds) = true := _root_.id rfl
@[simp] theorem isK_own {sz es} : isK (.own sz es) = false := _root_.id rfl
@[simp] theorem isK_blk {sz es} : isK (.blk sz es) = false := _root_.id rfl
@[simp] theorem isK_mp {kt et ks vs} : isK (.mp kt et ks vs) = false := _root_.id rfl
@[simp] theorem isK_mrf {b} : isK (.mrf b) = false := _root_.id rfl
@[simp] theorem isK_ref {p k n} : isK (.ref p k n) = false := _root_.id rfl
@[simp] theorem isK_adr {p i off} : isK (.adr p i off) = false := _root_.id rfl
@[simp] theorem isK_agx {ds} : isK (.agx ds) = false := _root_.id rfl
@[simp] theorem isK_tpx {ds} : isK (.tpx ds) = false := _root_.id rfl
@[simp] theorem isK_ptx {ds} : isK (.ptx ds) = false := _root_.id rfl
@[simp] theorem isK_fnx {g ds} : isK (.fnx g ds) = false := _root_.id rfl
@[simp] theorem isP_any : isP (.any) = true := _root_.id rfl
@[simp] theorem isP_int {k n} : isP (.int k n) = true := _root_.id rfl
@[simp] theorem isP_bool {b} : isP (.bool b) = true := _root_.id rfl
@[simp] theorem isP_str {s} : isP (.str s) = true := _root_.id rfl
@[simp] theorem isP_nilp : isP (.nilp) = true := _root_.id rfl
@[simp] theorem isP_nils : isP (.nils) = true := _root_.id rfl
@[simp] theorem isP_agg {ds} : isP (.agg ds) = true := _root_.id rfl
@[simp] theorem isP_tup {ds} : isP (.tup ds) = true := _root_.id rfl
@[simp] theorem isP_sl {es} : isP (.sl es) = true := _root_.id rfl
@[simp] theorem isP_ptr {ds} : isP (.ptr ds) = true := _root_.id rfl
@[simp] theorem isP_fn {g ds} : isP (.fn g ds) = true := _root_.id rfl
@[simp] theorem isP_own {sz es} : isP (.own sz es) = false := _root_.id rfl
@[simp] theorem isP_blk {sz es} : isP (.blk sz es) = false := _root_.id rfl
@[simp] theorem isP_mp {kt et ks vs} : isP (.mp kt et ks vs) = false := _root_.id rfl
@[simp] theorem isP_mrf {b} : isP (.mrf b) = true := _root_.id rfl
@[simp] theorem isP_ref {p k n} : isP (.ref p k n) = true := _root_.id rfl
@[simp] theorem isP_adr {p i off} : isP (.adr p i off) = true := _root_.id rfl
@[simp] theorem isP_agx {ds} : isP (.agx ds) = false := _root_.id rfl
@[simp] theorem isP_tpx {ds} : isP (.tpx ds) = false := _root_.id rfl
@[simp] theorem isP_ptx {ds} : isP (.ptx ds) = false := _root_.id rfl
@[simp] theorem isP_fnx {g ds} : isP (.fnx g ds) = false := _root_.id rfl
@[simp] theorem isS_any : isS (.any) = true := _root_.id rfl
@[simp] theorem isV_bb : isV (.bb) = true := _root_.id rfl
@[simp] theorem isS_bb : isS (.bb) = true := _root_.id rfl
@[simp] theorem isP_bb : isP (.bb) = true := _root_.id rfl
@[simp] theorem isB_bb : isB (.bb) = false := _root_.id rfl
@[simp] theorem isAny_bb : isAny (.bb) = false := _root_.id rfl
@[simp] theorem mroots_bb : mroots (.bb) = [] := _root_.id rfl
@[simp] theorem mroots1_bb : mroots1 (.bb) = [] := _root_.id rfl
@[simp] theorem isS_int {k n} : isS (.int k n) = true := _root_.id rfl
@[simp] theorem isS_bool {b} : isS (.bool b) = true := _root_.id rfl
@[simp] theorem isS_str {s} : isS (.str s) = true := _root_.id rfl
@[simp] theorem isS_nilp : isS (.nilp) = true := _root_.id rfl
@[simp] theorem isS_nils : isS (.nils) = true := _root_.id rfl
@[simp] theorem isS_agg {ds} : isS (.agg ds) = true := _root_.id rfl
@[simp] theorem isS_tup {ds} : isS (.tup ds) = true := _root_.id rfl
@[simp] theorem isS_sl {es} : isS (.sl es) = true := _root_.id rfl
@[simp] theorem isS_ptr {ds} : isS (.ptr ds) = true := _root_.id rfl
@[simp] theorem isS_fn {g ds} : isS (.fn g ds) = true := _root_.id rfl
@[simp] theorem isS_own {sz es} : isS (.own sz es) = false := _root_.id rfl
@[simp] theorem isS_blk {sz es} : isS (.blk sz es) = false := _root_.id rfl
@[simp] theorem isS_mp {kt et ks vs} : isS (.mp kt et ks vs) = false := _root_.id rfl
@[simp] theorem isS_mrf {b} : isS (.mrf b) = true := _root_.id rfl
@[simp] theorem isS_ref {p k n} : isS (.ref p k n) = true := _root_.id rfl
@[simp] theorem isS_adr {p i off} : isS (.adr p i off) = true := _root_.id rfl
@[simp] theorem isS_agx {ds} : isS (.agx ds) = ds.all isP := _root_.id rfl
@[simp] theorem isS_tpx {ds} : isS (.tpx ds) = ds.all isP := _root_.id rfl
@[simp] theorem isS_ptx {ds} : isS (.ptx ds) = ds.all isP := _root_.id rfl
@[simp] theorem isS_fnx {g ds} : isS (.fnx g ds) = ds.all isP := _root_.id rfl
@[simp] theorem isC1_any : isC1 (.any) = false := _root_.id rfl
@[simp] theorem isC1_int {k n} : isC1 (.int k n) = true := _root_.id rfl
@[simp] theorem isC1_bool {b} : isC1 (.bool b) = true := _root_.id rfl
@[simp] theorem isC1_str {s} : isC1 (.str s) = true := _root_.id rfl
@[simp] theorem isC1_nilp : isC1 (.nilp) = true := _root_.id rfl
@[simp] theorem isC1_nils : isC1 (.nils) = true := _root_.id rfl
@[simp] theorem isC1_agg {ds} : isC1 (.agg ds) = false := _root_.id rfl
@[simp] theorem isC1_tup {ds} : isC1 (.tup ds) = false := _root_.id rfl
@[simp] theorem isC1_sl {es} : isC1 (.sl es) = true := _root_.id rfl
@[simp] theorem isC1_ptr {ds} : isC1 (.ptr ds) = true := _root_.id rfl
@[simp] theorem isC1_fn {g ds} : isC1 (.fn g ds) = true := _root_.id rfl
@[simp] theorem isC1_own {sz es} : isC1 (.own sz es) = false := _root_.id rfl
@[simp] theorem isC1_blk {sz es} : isC1 (.blk sz es) = false := _root_.id rfl
@[simp] theorem isC1_mp {kt et ks vs} : isC1 (.mp kt et ks vs) = false := _root_.id rfl
@[simp] theorem isC1_mrf {b} : isC1 (.mrf b) = false := _root_.id rfl
@[simp] theorem isC1_ref {p k n} : isC1 (.ref p k n) = false := _root_.id rfl
@[simp] theorem isC1_adr {p i off} : isC1 (.adr p i off) = false := _root_.id rfl
@[simp] theorem isC1_agx {ds} : isC1 (.agx ds) = false := _root_.id rfl
@[simp] theorem isC1_tpx {ds} : isC1 (.tpx ds) = false := _root_.id rfl
@[simp] theorem isC1_ptx {ds} : isC1 (.ptx ds) = false := _root_.id rfl
@[simp] theorem isC1_fnx {g ds} : isC1 (.fnx g ds) = false := _root_.id rfl
@[simp] theorem isO_any : isO (.any) = false := _root_.id rfl
@[simp] theorem isO_int {k n} : isO (.int k n) = false := _root_.id rfl
@[simp] theorem isO_bool {b} : isO (.bool b) = false := _root_.id rfl
@[simp] theorem isO_str {s} : isO (.str s) = false := _root_.id rfl
@[simp] theorem isO_nilp : isO (.nilp) = false := _root_.id rfl
@[simp] theorem isO_nils : isO (.nils) = false := _root_.id rfl
@[simp] theorem isO_agg {ds} : isO (.agg ds) = false := _root_.id rfl
@[simp] theorem isO_tup {ds} : isO (.tup ds) = false := _root_.id rfl
@[simp] theorem isO_sl {es} : isO (.sl es) = false := _root_.id rfl
@[simp] theorem isO_ptr {ds} : isO (.ptr ds) = false := _root_.id rfl
@[simp] theorem isO_fn {g ds} : isO (.fn g ds) = false := _root_.id rfl
@[simp] theorem isO_own {sz es} : isO (.own sz es) = true := _root_.id rfl
@[simp] theorem isO_blk {sz es} : isO (.blk sz es) = false := _root_.id rfl
@[simp] theorem isO_mp {kt et ks vs} : isO (.mp kt et ks vs) = false := _root_.id rfl
@[simp] theorem isO_mrf {b} : isO (.mrf b) = false := _root_.id rfl
@[simp] theorem isO_ref {p k n} : isO (.ref p k n) = false := _root_.id rfl
@[simp] theorem isO_adr {p i off} : isO (.adr p i off) = false := _root_.id rfl
@[simp] theorem isO_agx {ds} : isO (.agx ds) = false := _root_.id rfl
@[simp] theorem isO_tpx {ds} : isO (.tpx ds) = false := _root_.id rfl
@[simp] theorem isO_ptx {ds} : isO (.ptx ds) = false := _root_.id rfl
@[simp] theorem isO_fnx {g ds} : isO (.fnx g ds) = false := _root_.id rfl
@[simp] theorem isF1_any : isF1 (.any) = true := _root_.id rfl
@[simp] theorem isF1_int {k n} : isF1 (.int k n) = true := _root_.id rfl
@[simp] theorem isF1_bool {b} : isF1 (.bool b) = true := _root_.id rfl
@[simp] theorem isF1_str {s} : isF1 (.str s) = true := _root_.id rfl
@[simp] theorem isF1_nilp : isF1 (.nilp) = true := _root_.id rfl
@[simp] theorem isF1_nils : isF1 (.nils) = true := _root_.id rfl
@[simp] theorem isF1_agg {ds} : isF1 (.agg ds) = false := _root_.id rfl
@[simp] theorem isF1_tup {ds} : isF1 (.tup ds) = false := _root_.id rfl
@[simp] theorem isF1_sl {es} : isF1 (.sl es) = false := _root_.id rfl
@[simp] theorem isF1_ptr {ds} : isF1 (.ptr ds) = false := _root_.id rfl
@[simp] theorem isF1_fn {g ds} : isF1 (.fn g ds) = false := _root_.id rfl
@[simp] theorem isF1_own {sz es} : isF1 (.own sz es) = false := _root_.id rfl
@[simp] theorem isF1_blk {sz es} : isF1 (.blk sz es) = false := _root_.id rfl
@[simp] theorem isF1_mp {kt et ks vs} : isF1 (.mp kt et ks vs) = false := _root_.id rfl
@[simp] theorem isF1_mrf {b} : isF1 (.mrf b) = false := _root_.id rfl
@[simp] theorem isF1_ref {p k n} : isF1 (.ref p k n) = false := _root_.id rfl
@[simp] theorem isF1_adr {p i off} : isF1 (.adr p i off) = false := _root_.id rfl
@[simp] theorem isF1_agx {ds} : isF1 (.agx ds) = false := _root_.id rfl
@[simp] theorem isF1_tpx {ds} : isF1 (.tpx ds) = false := _root_.id rfl
@[simp] theorem isF1_ptx {ds} : isF1 (.ptx ds) = false := _root_.id rfl
@[simp] theorem isF1_fnx {g ds} : isF1 (.fnx g ds) = false := _root_.id rfl
@[simp] theorem isF2_any : isF2 (.any) = true := _root_.id rfl
@[simp] theorem isF2_int {k n} : isF2 (.int k n) = true := _root_.id rfl
@[simp] theorem isF2_bool {b} : isF2 (.bool b) = true := _root_.id rfl
@[simp] theorem isF2_str {s} : isF2 (.str s) = true := _root_.id rfl
@[simp] theorem isF2_nilp : isF2 (.nilp) = true := _root_.id rfl
@[simp] theorem isF2_nils : isF2 (.nils) = true := _root_.id rfl
@[simp] theorem isF2_agg {ds} : isF2 (.agg ds) = ds.all isF1 := _root_.id rfl
@[simp] theorem isF2_tup {ds} : isF2 (.tup ds) = false := _root_.id rfl
@[simp] theorem isF2_sl {es} : isF2 (.sl es) = false := _root_.id rfl
@[simp] theorem isF2_ptr {ds} : isF2 (.ptr ds) = false := _root_.id rfl
@[simp] theorem isF2_fn {g ds} : isF2 (.fn g ds) = false := _root_.id rfl
@[simp] theorem isF2_own {sz es} : isF2 (.own sz es) = false := _root_.id rfl
@[simp] theorem isF2_blk {sz es} : isF2 (.blk sz es) = false := _root_.id rfl
@[simp] theorem isF2_mp {kt et ks vs} : isF2 (.mp kt et ks vs) = false := _root_.id rfl
@[simp] theorem isF2_mrf {b} : isF2 (.mrf b) = false := _root_.id rfl
@[simp] theorem isF2_ref {p k n} : isF2 (.ref p k n) = false := _root_.id rfl
@[simp] theorem isF2_adr {p i off} : isF2 (.adr p i off) = false := _root_.id rfl
@[simp] theorem isF2_agx {ds} : isF2 (.agx ds) = false := _root_.id rfl
@[simp] theorem isF2_tpx {ds} : isF2 (.tpx ds) = false := _root_.id rfl
@[simp] theorem isF2_ptx {ds} : isF2 (.ptx ds) = false := _root_.id rfl
@[simp] theorem isF2_fnx {g ds} : isF2 (.fnx g ds) = false := _root_.id rfl
@[simp] theorem isF_any : isF (.any) = true := _root_.id rfl
@[simp] theorem isF_int {k n} : isF (.int k n) = true := _root_.id rfl
@[simp] theorem isF_bool {b} : isF (.bool b) = true := _root_.id rfl
@[simp] theorem isF_str {s} : isF (.str s) = true := _root_.id rfl
@[simp] theorem isF_nilp : isF (.nilp) = true := _root_.id rfl
@[simp] theorem isF_nils : isF (.nils) = true := _root_.id rfl
@[simp] theorem isF_agg {ds} : isF (.agg ds) = ds.all isF1 := _root_.id rfl
@[simp] theorem isF_tup {ds} : isF (.tup ds) = ds.all isF2 := _root_.id rfl
@[simp] theorem isF_sl {es} : isF (.sl es) = false := _root_.id rfl
@[simp] theorem isF_ptr {ds} : isF (.ptr ds) = false := _root_.id rfl
@[simp] theorem isF_fn {g ds} : isF (.fn g ds) = false := _root_.id rfl
@[simp] theorem isF_own {sz es} : isF (.own sz es) = false := _root_.id rfl
@[simp] theorem isF_blk {sz es} : isF (.blk sz es) = false := _root_.id rfl
@[simp] theorem isF_mp {kt et ks vs} : isF (.mp kt et ks vs) = false := _root_.id rfl
@[simp] theorem isF_mrf {b} : isF (.mrf b) = false := _root_.id rfl
@[simp] theorem isF_ref {p k n} : isF (.ref p k n) = false := _root_.id rfl
@[simp] theorem isF_adr {p i off} : isF (.adr p i off) = false := _root_.id rfl
@[simp] theorem isF_agx {ds} : isF (.agx ds) = false := _root_.id rfl
@[simp] theorem isF_tpx {ds} : isF (.tpx ds) = false := _root_.id rfl
@[simp] theorem isF_ptx {ds} : isF (.ptx ds) = false := _root_.id rfl
@[simp] theorem isF_fnx {g ds} : isF (.fnx g ds) = false := _root_.id rfl
@[simp] theorem isB_any : isB (.any) = false := _root_.id rfl
@[simp] theorem isB_int {k n} : isB (.int k n) = false := _root_.id rfl
@[simp] theorem isB_bool {b} : isB (.bool b) = false := _root_.id rfl
@[simp] theorem isB_str {s} : isB (.str s) = false := _root_.id rfl
@[simp] theorem isB_nilp : isB (.nilp) = false := _root_.id rfl
@[simp] theorem isB_nils : isB (.nils) = false := _root_.id rfl
@[simp] theorem isB_agg {ds} : isB (.agg ds) = false := _root_.id rfl
@[simp] theorem isB_tup {ds} : isB (.tup ds) = false := _root_.id rfl
@[simp] theorem isB_sl {es} : isB (.sl es) = false := _root_.id rfl
@[simp] theorem isB_ptr {ds} : isB (.ptr ds) = false := _root_.id rfl
@[simp] theorem isB_fn {g ds} : isB (.fn g ds) = false := _root_.id rfl
@[simp] theorem isB_own {sz es} : isB (.own sz es) = false := _root_.id rfl
@[simp] theorem isB_blk {sz es} : isB (.blk sz es) = true := _root_.id rfl
@[simp] theorem isB_mp {kt et ks vs} : isB (.mp kt et ks vs) = true := _root_.id rfl
@[simp] theorem isB_mrf {b} : isB (.mrf b) = false := _root_.id rfl
@[simp] theorem isB_ref {p k n} : isB (.ref p k n) = false := _root_.id rfl
@[simp] theorem isB_adr {p i off} : isB (.adr p i off) = false := _root_.id rfl
@[simp] theorem isB_agx {ds} : isB (.agx ds) = false := _root_.id rfl
@[simp] theorem isB_tpx {ds} : isB (.tpx ds) = false := _root_.id rfl
@[simp] theorem isB_ptx {ds} : isB (.ptx ds) = false := _root_.id rfl
@[simp] theorem isB_fnx {g ds} : isB (.fnx g ds) = false := _root_.id rfl
@[simp] theorem isAny_any : isAny (.any) = true := _root_.id rfl
@[simp] theorem isAny_int {k n} : isAny (.int k n) = false := _root_.id rfl
@[simp] theorem isAny_bool {b} : isAny (.bool b) = false := _root_.id rfl
@[simp] theorem isAny_str {s} : isAny (.str s) = false := _root_.id rfl
@[simp] theorem isAny_nilp : isAny (.nilp) = false := _root_.id rfl
@[simp] theorem isAny_nils : isAny (.nils) = false := _root_.id rfl
@[simp] theorem isAny_agg {ds} : isAny (.agg ds) = false := _root_.id rfl
@[simp] theorem isAny_tup {ds} : isAny (.tup ds) = false := _root_.id rfl
@[simp] theorem isAny_sl {es} : isAny (.sl es) = false := _root_.id rfl
@[simp] theorem isAny_ptr {ds} : isAny (.ptr ds) = false := _root_.id rfl
@[simp] theorem isAny_fn {g ds} : isAny (.fn g ds) = false := _root_.id rfl
@[simp] theorem isAny_own {sz es} : isAny (.own sz es) = false := _root_.id rfl
@[simp] theorem isAny_blk {sz es} : isAny (.blk sz es) = false := _root_.id rfl
@[simp] theorem isAny_mp {kt et ks vs} : isAny (.mp kt et ks vs) = false := _root_.id rfl
@[simp] theorem isAny_mrf {b} : isAny (.mrf b) = false := _root_.id rfl
@[simp] theorem isAny_ref {p k n} : isAny (.ref p k n) = false := _root_.id rfl
@[simp] theorem isAny_adr {p i off} : isAny (.adr p i off) = false := _root_.id rfl
@[simp] theorem isAny_agx {ds} : isAny (.agx ds) = false := _root_.id rfl
@[simp] theorem isAny_tpx {ds} : isAny (.tpx ds) = false := _root_.id rfl
@[simp] theorem isAny_ptx {ds} : isAny (.ptx ds) = false := _root_.id rfl
@[simp] theorem isAny_fnx {g ds} : isAny (.fnx g ds) = false := _root_.id rfl
@[simp] theorem cellsOf_any : cellsOf (.any) = [.any] := _root_.id rfl
@[simp] theorem cellsOf_int {k n} : cellsOf (.int k n) = [.int k n] := _root_.id rfl
@[simp] theorem cellsOf_bool {b} : cellsOf (.bool b) = [.bool b] := _root_.id rfl
@[simp] theorem cellsOf_str {s} : cellsOf (.str s) = [.str s] := _root_.id rfl
@[simp] theorem cellsOf_nilp : cellsOf (.nilp) = [.nilp] := _root_.id rfl
@[simp] theorem cellsOf_nils : cellsOf (.nils) = [.nils] := _root_.id rfl
@[simp] theorem cellsOf_agg {ds} : cellsOf (.agg ds) = ds := _root_.id rfl
@[simp] theorem cellsOf_tup {ds} : cellsOf (.tup ds) = [.tup ds] := _root_.id rfl
@[simp] theorem cellsOf_sl {es} : cellsOf (.sl es) = [.sl es] := _root_.id rfl
@[simp] theorem cellsOf_ptr {ds} : cellsOf (.ptr ds) = [.ptr ds] := _root_.id rfl
@[simp] theorem cellsOf_fn {g ds} : cellsOf (.fn g ds) = [.fn g ds] := _root_.id rfl
@[simp] theorem cellsOf_own {sz es} : cellsOf (.own sz es) = [.own sz es] := _root_.id rfl
@[simp] theorem cellsOf_blk {sz es} : cellsOf (.blk sz es) = [.blk sz es] := _root_.id rfl
@[simp] theorem cellsOf_mp {kt et ks vs} : cellsOf (.mp kt et ks vs) = [.mp kt et ks vs] := _root_.id rfl
@[simp] theorem cellsOf_mrf {b} : cellsOf (.mrf b) = [.mrf b] := _root_.id rfl
@[simp] theorem cellsOf_ref {p k n} : cellsOf (.ref p k n) = [.ref p k n] := _root_.id rfl
@[simp] theorem cellsOf_adr {p i off} : cellsOf (.adr p i off) = [.adr p i off] := _root_.id rfl
@[simp] theorem cellsOf_agx {ds} : cellsOf (.agx ds) = [.agx ds] := _root_.id rfl
@[simp] theorem cellsOf_tpx {ds} : cellsOf (.tpx ds) = [.tpx ds] := _root_.id rfl
@[simp] theorem cellsOf_ptx {ds} : cellsOf (.ptx ds) = [.ptx ds] := _root_.id rfl
@[simp] theorem cellsOf_fnx {g ds} : cellsOf (.fnx g ds) = [.fnx g ds] := _root_.id rfl
@[simp] theorem aggOf_any : aggOf (.any) = .any := _root_.id rfl
@[simp] theorem aggOf_int {k n} : aggOf (.int k n) = .int k n := _root_.id rfl
@[simp] theorem aggOf_bool {b} : aggOf (.bool b) = .bool b := _root_.id rfl
@[simp] theorem aggOf_str {s} : aggOf (.str s) = .str s := _root_.id rfl
@[simp] theorem aggOf_nilp : aggOf (.nilp) = .nilp := _root_.id rfl
@[simp] theorem aggOf_nils : aggOf (.nils) = .nils := _root_.id rfl
@[simp] theorem aggOf_agg {ds} : aggOf (.agg ds) = .agg ds := _root_.id rfl
@[simp] theorem aggOf_tup {ds} : aggOf (.tup ds) = .tup ds := _root_.id rfl
@[simp] theorem aggOf_sl {es} : aggOf (.sl es) = .sl es := _root_.id rfl
@[simp] theorem aggOf_ptr {ds} : aggOf (.ptr ds) = .ptr ds := _root_.id rfl
@[simp] theorem aggOf_fn {g ds} : aggOf (.fn g ds) = .fn g ds := _root_.id rfl
@[simp] theorem aggOf_own {sz es} : aggOf (.own sz es) = .own sz es := _root_.id rfl
@[simp] theorem aggOf_blk {sz es} : aggOf (.blk sz es) = .blk sz es := _root_.id rfl
@[simp] theorem aggOf_mp {kt et ks vs} : aggOf (.mp kt et ks vs) = .mp kt et ks vs := _root_.id rfl
@[simp] theorem aggOf_mrf {b} : aggOf (.mrf b) = .mrf b := _root_.id rfl
@[simp] theorem aggOf_ref {p k n} : aggOf (.ref p k n) = .ref p k n := _root_.id rfl
@[simp] theorem aggOf_adr {p i off} : aggOf (.adr p i off) = .adr p i off := _root_.id rfl
@[simp] theorem aggOf_agx {ds} : aggOf (.agx ds) = .agg ds := _root_.id rfl
@[simp] theorem aggOf_tpx {ds} : aggOf (.tpx ds) = .tpx ds := _root_.id rfl
@[simp] theorem aggOf_ptx {ds} : aggOf (.ptx ds) = .ptx ds := _root_.id rfl
@[simp] theorem aggOf_fnx {g ds} : aggOf (.fnx g ds) = .fnx g ds := _root_.id rfl
@[simp] theorem cellV_any : cellV (.any) = .any := _root_.id rfl
@[simp] theorem cellV_int {k n} : cellV (.int k n) = .int k n := _root_.id rfl
@[simp] theorem cellV_bool {b} : cellV (.bool b) = .bool b := _root_.id rfl
@[simp] theorem cellV_str {s} : cellV (.str s) = .str s := _root_.id rfl
@[simp] theorem cellV_nilp : cellV (.nilp) = .nilp := _root_.id rfl
@[simp] theorem cellV_nils : cellV (.nils) = .nils := _root_.id rfl
@[simp] theorem cellV_agg {ds} : cellV (.agg ds) = .agg ds := _root_.id rfl
@[simp] theorem cellV_tup {ds} : cellV (.tup ds) = .tup ds := _root_.id rfl
@[simp] theorem cellV_sl {es} : cellV (.sl es) = .sl es := _root_.id rfl
@[simp] theorem cellV_ptr {ds} : cellV (.ptr ds) = .ptr ds := _root_.id rfl
@[simp] theorem cellV_fn {g ds} : cellV (.fn g ds) = .fn g ds := _root_.id rfl
@[simp] theorem cellV_own {sz es} : cellV (.own sz es) = .sl es := _root_.id rfl
@[simp] theorem cellV_blk {sz es} : cellV (.blk sz es) = .blk sz es := _root_.id rfl
@[simp] theorem cellV_mp {kt et ks vs} : cellV (.mp kt et ks vs) = .mp kt et ks vs := _root_.id rfl
@[simp] theorem cellV_mrf {b} : cellV (.mrf b) = .mrf b := _root_.id rfl
@[simp] theorem cellV_ref {p k n} : cellV (.ref p k n) = .ref p k n := _root_.id rfl
@[simp] theorem cellV_adr {p i off} : cellV (.adr p i off) = .adr p i off := _root_.id rfl
@[simp] theorem cellV_agx {ds} : cellV (.agx ds) = .agx ds := _root_.id rfl
@[simp] theorem cellV_tpx {ds} : cellV (.tpx ds) = .tpx ds := _root_.id rfl
@[simp] theorem cellV_ptx {ds} : cellV (.ptx ds) = .ptx ds := _root_.id rfl
@[simp] theorem cellV_fnx {g ds} : cellV (.fnx g ds) = .fnx g ds := _root_.id rfl
@[simp] theorem mroots1_any : mroots1 (.any) = [] := _root_.id rfl
@[simp] theorem mroots1_int {k n} : mroots1 (.int k n) = [] := _root_.id rfl
@[simp] theorem mroots1_bool {b} : mroots1 (.bool b) = [] := _root_.id rfl
@[simp] theorem mroots1_str {s} : mroots1 (.str s) = [] := _root_.id rfl
@[simp] theorem mroots1_nilp : mroots1 (.nilp) = [] := _root_.id rfl
@[simp] theorem mroots1_nils : mroots1 (.nils) = [] := _root_.id rfl
@[simp] theorem mroots1_agg {ds} : mroots1 (.agg ds) = [] := _root_.id rfl
@[simp] theorem mroots1_tup {ds} : mroots1 (.tup ds) = [] := _root_.id rfl
@[simp] theorem mroots1_sl {es} : mroots1 (.sl es) = [] := _root_.id rfl
@[simp] theorem mroots1_ptr {ds} : mroots1 (.ptr ds) = [] := _root_.id rfl
@[simp] theorem mroots1_fn {g ds} : mroots1 (.fn g ds) = [] := _root_.id rfl
@[simp] theorem mroots1_own {sz es} : mroots1 (.own sz es) = [] := _root_.id rfl
@[simp] theorem mroots1_blk {sz es} : mroots1 (.blk sz es) = [] := _root_.id rfl
@[simp] theorem mroots1_mp {kt et ks vs} : mroots1 (.mp kt et ks vs) = [] := _root_.id rfl
@[simp] theorem mroots1_mrf {b} : mroots1 (.mrf b) = [b] := _root_.id rfl
@[simp] theorem mroots1_ref {p k n} : mroots1 (.ref p k n) = [p.root] := _root_.id rfl
@[simp] theorem mroots1_adr {p i off} : mroots1 (.adr p i off) = [p.root] := _root_.id rfl
@[simp] theorem mroots1_agx {ds} : mroots1 (.agx ds) = [] := _root_.id rfl
@[simp] theorem mroots1_tpx {ds} : mroots1 (.tpx ds) = [] := _root_.id rfl
@[simp] theorem mroots1_ptx {ds} : mroots1 (.ptx ds) = [] := _root_.id rfl
@[simp] theorem mroots1_fnx {g ds} : mroots1 (.fnx g ds) = [] := _root_.id rfl
@[simp] theorem mroots_any : mroots (.any) = [] := _root_.id rfl
@[simp] theorem mroots_int {k n} : mroots (.int k n) = [] := _root_.id rfl
@[simp] theorem mroots_bool {b} : mroots (.bool b) = [] := _root_.id rfl
@[simp] theorem mroots_str {s} : mroots (.str s) = [] := _root_.id rfl
@[simp] theorem mroots_nilp : mroots (.nilp) = [] := _root_.id rfl
@[simp] theorem mroots_nils : mroots (.nils) = [] := _root_.id rfl
@[simp] theorem mroots_agg {ds} : mroots (.agg ds) = [] := _root_.id rfl
@[simp] theorem mroots_tup {ds} : mroots (.tup ds) = [] := _root_.id rfl
@[simp] theorem mroots_sl {es} : mroots (.sl es) = [] := _root_.id rfl
@[simp] theorem mroots_ptr {ds} : mroots (.ptr ds) = [] := _root_.id rfl
@[simp] theorem mroots_fn {g ds} : mroots (.fn g ds) = [] := _root_.id rfl
@[simp] theorem mroots_own {sz es} : mroots (.own sz es) = [] := _root_.id rfl
@[simp] theorem mroots_blk {sz es} : mroots (.blk sz es) = [] := _root_.id rfl
@[simp] theorem mroots_mp {kt et ks vs} : mroots (.mp kt et ks vs) = [] := _root_.id rfl
@[simp] theorem mroots_mrf {b} : mroots (.mrf b) = [b] := _root_.id rfl
@[simp] theorem mroots_ref {p k n} : mroots (.ref p k n) = [p.root] := _root_.id rfl
@[simp] theorem mroots_adr {p i off} : mroots (.adr p i off) = [p.root] := _root_.id rfl
@[simp] theorem mroots_agx {ds} : mroots (.agx ds) = ds.flatMap mroots1 := _root_.id rfl
@[simp] theorem mroots_tpx {ds} : mroots (.tpx ds) = ds.flatMap mroots1 := _root_.id rfl
@[simp] theorem mroots_ptx {ds} : mroots (.ptx ds) = ds.flatMap mroots1 := _root_.id rfl
@[simp] theorem mroots_fnx {g ds} : mroots (.fnx g ds) = ds.flatMap mroots1 := _root_.id rfl
@[simp] theorem dp1_any {f : Nat → D} : dp1 f (.any) = (.any) := _root_.id rfl
@[simp] theorem dp1_int {f : Nat → D} {k n} : dp1 f (.int k n) = (.int k n) := _root_.id rfl
@[simp] theorem dp1_bool {f : Nat → D} {b} : dp1 f (.bool b) = (.bool b) := _root_.id rfl
@[simp] theorem dp1_str {f : Nat → D} {s} : dp1 f (.str s) = (.str s) := _root_.id rfl
@[simp] theorem dp1_nilp {f : Nat → D} : dp1 f (.nilp) = (.nilp) := _root_.id rfl
@[simp] theorem dp1_nils {f : Nat → D} : dp1 f (.nils) = (.nils) := _root_.id rfl
@[simp] theorem dp1_agg {f : Nat → D} {ds} : dp1 f (.agg ds) = (.agg ds) := _root_.id rfl
@[simp] theorem dp1_tup {f : Nat → D} {ds} : dp1 f (.tup ds) = (.tup ds) := _root_.id rfl
@[simp] theorem dp1_sl {f : Nat → D} {es} : dp1 f (.sl es) = (.sl es) := _root_.id rfl
@[simp] theorem dp1_ptr {f : Nat → D} {ds} : dp1 f (.ptr ds) = (.ptr ds) := _root_.id rfl
@[simp] theorem dp1_fn {f : Nat → D} {g ds} : dp1 f (.fn g ds) = (.fn g ds) := _root_.id rfl
@[simp] theorem dp1_own {f : Nat → D} {sz es} : dp1 f (.own sz es) = (.own sz es) := _root_.id rfl
@[simp] theorem dp1_blk {f : Nat → D} {sz es} : dp1 f (.blk sz es) = (.blk sz es) := _root_.id rfl
@[simp] theorem dp1_mp {f : Nat → D} {kt et ks vs} : dp1 f (.mp kt et ks vs) = (.mp kt et ks vs) := _root_.id rfl
@[simp] theorem dp1_mrf {f : Nat → D} {b} : dp1 f (.mrf b) = (.mrf b) := _root_.id rfl
@[simp] theorem dp1_ref {f : Nat → D} {p k n} : dp1 f (.ref p k n) = (match getP f p with | some (_, es) => .sl (((es.drop k).take n).map fun e => e.map cellV) | none => .any) := _root_.id rfl
@[simp] theorem dp1_adr {f : Nat → D} {p i off} : dp1 f (.adr p i off) = (match getP f p with | some (_, es) => .ptr (((es[i]?.getD []).drop off).map cellV) | none => .any) := _root_.id rfl
@[simp] theorem dp1_agx {f : Nat → D} {ds} : dp1 f (.agx ds) = (.agx ds) := _root_.id rfl
@[simp] theorem dp1_tpx {f : Nat → D} {ds} : dp1 f (.tpx ds) = (.tpx ds) := _root_.id rfl
@[simp] theorem dp1_ptx {f : Nat → D} {ds} : dp1 f (.ptx ds) = (.ptx ds) := _root_.id rfl
@[simp] theorem dp1_fnx {f : Nat → D} {g ds} : dp1 f (.fnx g ds) = (.fnx g ds) := _root_.id rfl
@[simp] theorem dp_any {f : Nat → D} : dp f (.any) = (.any) := _root_.id rfl
@[simp] theorem dp_int {f : Nat → D} {k n} : dp f (.int k n) = (.int k n) := _root_.id rfl
@[simp] theorem dp_bool {f : Nat → D} {b} : dp f (.bool b) = (.bool b) := _root_.id rfl
@[simp] theorem dp_str {f : Nat → D} {s} : dp f (.str s) = (.str s) := _root_.id rfl
@[simp] theorem dp_nilp {f : Nat → D} : dp f (.nilp) = (.nilp) := _root_.id rfl
@[simp] theorem dp_nils {f : Nat → D} : dp f (.nils) = (.nils) := _root_.id rfl
@[simp] theorem dp_agg {f : Nat → D} {ds} : dp f (.agg ds) = (.agg ds) := _root_.id rfl
@[simp] theorem dp_tup {f : Nat → D} {ds} : dp f (.tup ds) = (.tup ds) := _root_.id rfl
@[simp] theorem dp_sl {f : Nat → D} {es} : dp f (.sl es) = (.sl es) := _root_.id rfl
@[simp] theorem dp_ptr {f : Nat → D} {ds} : dp f (.ptr ds) = (.ptr ds) := _root_.id rfl
@[simp] theorem dp_fn {f : Nat → D} {g ds} : dp f (.fn g ds) = (.fn g ds) := _root_.id rfl
@[simp] theorem dp_own {f : Nat → D} {sz es} : dp f (.own sz es) = (.own sz es) := _root_.id rfl
@[simp] theorem dp_blk {f : Nat → D} {sz es} : dp f (.blk sz es) = (.blk sz es) := _root_.id rfl
@[simp] theorem dp_mp {f : Nat → D} {kt et ks vs} : dp f (.mp kt et ks vs) = (.mp kt et ks vs) := _root_.id rfl
@[simp] theorem dp_mrf {f : Nat → D} {b} : dp f (.mrf b) = (.mrf b) := _root_.id rfl
@[simp] theorem dp_ref {f : Nat → D} {p k n} : dp f (.ref p k n) = (match getP f p with | some (_, es) => .sl (((es.drop k).take n).map fun e => e.map cellV) | none => .any) := _root_.id rfl
@[simp] theorem dp_adr {f : Nat → D} {p i off} : dp f (.adr p i off) = (match getP f p with | some (_, es) => .ptr (((es[i]?.getD []).drop off).map cellV) | none => .any) := _root_.id rfl
@[simp] theorem dp_agx {f : Nat → D} {ds} : dp f (.agx ds) = (.agg (ds.map (dp1 f))) := _root_.id rfl
@[simp] theorem dp_tpx {f : Nat → D} {ds} : dp f (.tpx ds) = (.tup (ds.map (dp1 f))) := _root_.id rfl
@[simp] theorem dp_ptx {f : Nat → D} {ds} : dp f (.ptx ds) = (.ptr (ds.map (dp1 f))) := _root_.id rfl
@[simp] theorem dp_fnx {f : Nat → D} {g ds} : dp f (.fnx g ds) = (.fn g (ds.map (dp1 f))) := _root_.id rfl
@[simp] theorem dpOk1_any {f : Nat → D} : dpOk1 f (.any) = (True) := _root_.id rfl
@[simp] theorem dpOk1_int {f : Nat → D} {k n} : dpOk1 f (.int k n) = (True) := _root_.id rfl
@[simp] theorem dpOk1_bool {f : Nat → D} {b} : dpOk1 f (.bool b) = (True) := _root_.id rfl
@[simp] theorem dpOk1_str {f : Nat → D} {s} : dpOk1 f (.str s) = (True) := _root_.id rfl
@[simp] theorem dpOk1_nilp {f : Nat → D} : dpOk1 f (.nilp) = (True) := _root_.id rfl
@[simp] theorem dpOk1_nils {f : Nat → D} : dpOk1 f (.nils) = (True) := _root_.id rfl
@[simp] theorem dpOk1_agg {f : Nat → D} {ds} : dpOk1 f (.agg ds) = (True) := _root_.id rfl
@[simp] theorem dpOk1_tup {f : Nat → D} {ds} : dpOk1 f (.tup ds) = (True) := _root_.id rfl
@[simp] theorem dpOk1_sl {f : Nat → D} {es} : dpOk1 f (.sl es) = (True) := _root_.id rfl
@[simp] theorem dpOk1_ptr {f : Nat → D} {ds} : dpOk1 f (.ptr ds) = (True) := _root_.id rfl
@[simp] theorem dpOk1_fn {f : Nat → D} {g ds} : dpOk1 f (.fn g ds) = (True) := _root_.id rfl
@[simp] theorem dpOk1_own {f : Nat → D} {sz es} : dpOk1 f (.own sz es) = (True) := _root_.id rfl
@[simp] theorem dpOk1_blk {f : Nat → D} {sz es} : dpOk1 f (.blk sz es) = (True) := _root_.id rfl
@[simp] theorem dpOk1_mp {f : Nat → D} {kt et ks vs} : dpOk1 f (.mp kt et ks vs) = (True) := _root_.id rfl
@[simp] theorem dpOk1_mrf {f : Nat → D} {b} : dpOk1 f (.mrf b) = (False) := _root_.id rfl
@[simp] theorem dpOk1_ref {f : Nat → D} {p k n} : dpOk1 f (.ref p k n) = (match getP f p with | some (_, es) => k + n ≤ es.length | none => False) := _root_.id rfl
@[simp] theorem dpOk1_adr {f : Nat → D} {p i off} : dpOk1 f (.adr p i off) = (match getP f p with | some _ => True | none => False) := _root_.id rfl
@[simp] theorem dpOk1_agx {f : Nat → D} {ds} : dpOk1 f (.agx ds) = (True) := _root_.id rfl
@[simp] theorem dpOk1_tpx {f : Nat → D} {ds} : dpOk1 f (.tpx ds) = (True) := _root_.id rfl
@[simp] theorem dpOk1_ptx {f : Nat → D} {ds} : dpOk1 f (.ptx ds) = (True) := _root_.id rfl
@[simp] theorem dpOk1_fnx {f : Nat → D} {g ds} : dpOk1 f (.fnx g ds) = (True) := _root_.id rfl
@[simp] theorem dpOk_any {f : Nat → D} : dpOk f (.any) = (True) := _root_.id rfl
@[simp] theorem dpOk_int {f : Nat → D} {k n} : dpOk f (.int k n) = (True) := _root_.id rfl
@[simp] theorem dpOk_bool {f : Nat → D} {b} : dpOk f (.bool b) = (True) := _root_.id rfl
@[simp] theorem dpOk_str {f : Nat → D} {s} : dpOk f (.str s) = (True) := _root_.id rfl
@[simp] theorem dpOk_nilp {f : Nat → D} : dpOk f (.nilp) = (True) := _root_.id rfl
@[simp] theorem dpOk_nils {f : Nat → D} : dpOk f (.nils) = (True) := _root_.id rfl
@[simp] theorem dpOk_agg {f : Nat → D} {ds} : dpOk f (.agg ds) = (True) := _root_.id rfl
@[simp] theorem dpOk_tup {f : Nat → D} {ds} : dpOk f (.tup ds) = (True) := _root_.id rfl
@[simp] theorem dpOk_sl {f : Nat → D} {es} : dpOk f (.sl es) = (True) := _root_.id rfl
@[simp] theorem dpOk_ptr {f : Nat → D} {ds} : dpOk f (.ptr ds) = (True) := _root_.id rfl
@[simp] theorem dpOk_fn {f : Nat → D} {g ds} : dpOk f (.fn g ds) = (True) := _root_.id rfl
@[simp] theorem dpOk_own {f : Nat → D} {sz es} : dpOk f (.own sz es) = (True) := _root_.id rfl
@[simp] theorem dpOk_blk {f : Nat → D} {sz es} : dpOk f (.blk sz es) = (True) := _root_.id rfl
@[simp] theorem dpOk_mp {f : Nat → D} {kt et ks vs} : dpOk f (.mp kt et ks vs) = (True) := _root_.id rfl
@[simp] theorem dpOk_mrf {f : Nat → D} {b} : dpOk f (.mrf b) = (False) := _root_.id rfl
@[simp] theorem dpOk_ref {f : Nat → D} {p k n} : dpOk f (.ref p k n) = (match getP f p with | some (_, es) => k + n ≤ es.length | none => False) := _root_.id rfl
@[simp] theorem dpOk_adr {f : Nat → D} {p i off} : dpOk f (.adr p i off) = (match getP f p with | some _ => True | none => False) := _root_.id rfl
@[simp] theorem dpOk_agx {f : Nat → D} {ds} : dpOk f (.agx ds) = (∀ d ∈ ds, dpOk1 f d) := _root_.id rfl
@[simp] theorem dpOk_tpx {f : Nat → D} {ds} : dpOk f (.tpx ds) = (∀ d ∈ ds, dpOk1 f d) := _root_.id rfl
@[simp] theorem dpOk_ptx {f : Nat → D} {ds} : dpOk f (.ptx ds) = (∀ d ∈ ds, dpOk1 f d) := _root_.id rfl
@[simp] theorem dpOk_fnx {f : Nat → D} {g ds} : dpOk f (.fnx g ds) = (∀ d ∈ ds, dpOk1 f d) := _root_.id rfl
@[simp] theorem ldc_any {p i0 o} : ldc p i0 o (.any) = .any := _root_.id rfl
@[simp] theorem nil1_any {m} : nil1 m (.any) = .any := _root_.id rfl
@[simp] theorem ldc_int {p i0 o k n} : ldc p i0 o (.int k n) = .int k n := _root_.id rfl
@[simp] theorem nil1_int {m k n} : nil1 m (.int k n) = .int k n := _root_.id rfl
@[simp] theorem ldc_bool {p i0 o b} : ldc p i0 o (.bool b) = .bool b := _root_.id rfl
@[simp] theorem nil1_bool {m b} : nil1 m (.bool b) = .bool b := _root_.id rfl
@[simp] theorem ldc_str {p i0 o s} : ldc p i0 o (.str s) = .str s := _root_.id rfl
@[simp] theorem nil1_str {m s} : nil1 m (.str s) = .str s := _root_.id rfl
@[simp] theorem ldc_nilp {p i0 o} : ldc p i0 o (.nilp) = .nilp := _root_.id rfl
@[simp] theorem nil1_nilp {m} : nil1 m (.nilp) = .nilp := _root_.id rfl
@[simp] theorem ldc_nils {p i0 o} : ldc p i0 o (.nils) = .nils := _root_.id rfl
@[simp] theorem ldc_agg {p i0 o ds} : ldc p i0 o (.agg ds) = .agg ds := _root_.id rfl
@[simp] theorem nil1_agg {m ds} : nil1 m (.agg ds) = .agg ds := _root_.id rfl
@[simp] theorem ldc_tup {p i0 o ds} : ldc p i0 o (.tup ds) = .tup ds := _root_.id rfl
@[simp] theorem nil1_tup {m ds} : nil1 m (.tup ds) = .tup ds := _root_.id rfl
@[simp] theorem ldc_sl {p i0 o es} : ldc p i0 o (.sl es) = .sl es := _root_.id rfl
@[simp] theorem nil1_sl {m es} : nil1 m (.sl es) = .sl es := _root_.id rfl
@[simp] theorem ldc_ptr {p i0 o ds} : ldc p i0 o (.ptr ds) = .ptr ds := _root_.id rfl
@[simp] theorem nil1_ptr {m ds} : nil1 m (.ptr ds) = .ptr ds := _root_.id rfl
@[simp] theorem ldc_fn {p i0 o g ds} : ldc p i0 o (.fn g ds) = .fn g ds := _root_.id rfl
@[simp] theorem nil1_fn {m g ds} : nil1 m (.fn g ds) = .fn g ds := _root_.id rfl
@[simp] theorem ldc_own {c i o sz es} : ldc (.r c) i o (.own sz es) = .ref (.n c i o) 0 es.length := _root_.id rfl
@[simp] theorem nil1_own {m sz es} : nil1 m (.own sz es) = .own sz es := _root_.id rfl
@[simp] theorem ldc_blk {p i0 o sz es} : ldc p i0 o (.blk sz es) = .blk sz es := _root_.id rfl
@[simp] theorem nil1_blk {m sz es} : nil1 m (.blk sz es) = .blk sz es := _root_.id rfl
@[simp] theorem ldc_mp {p i0 o kt et ks vs} : ldc p i0 o (.mp kt et ks vs) = .mp kt et ks vs := _root_.id rfl
@[simp] theorem nil1_mp {m kt et ks vs} : nil1 m (.mp kt et ks vs) = .mp kt et ks vs := _root_.id rfl
@[simp] theorem ldc_mrf {p i0 o b} : ldc p i0 o (.mrf b) = .mrf b := _root_.id rfl
@[simp] theorem nil1_mrf {m b} : nil1 m (.mrf b) = .mrf b := _root_.id rfl
@[simp] theorem ldc_ref {p i0 o q k n} : ldc p i0 o (.ref q k n) = .ref q k n := _root_.id rfl
@[simp] theorem nil1_ref {m q k n} : nil1 m (.ref q k n) = .ref q k n := _root_.id rfl
@[simp] theorem ldc_adr {p i0 o q i off} : ldc p i0 o (.adr q i off) = .adr q i off := _root_.id rfl
@[simp] theorem nil1_adr {m q i off} : nil1 m (.adr q i off) = .adr q i off := _root_.id rfl
@[simp] theorem ldc_agx {p i0 o ds} : ldc p i0 o (.agx ds) = .agx ds := _root_.id rfl
@[simp] theorem nil1_agx {m ds} : nil1 m (.agx ds) = .agx ds := _root_.id rfl
@[simp] theorem ldc_tpx {p i0 o ds} : ldc p i0 o (.tpx ds) = .tpx ds := _root_.id rfl
@[simp] theorem nil1_tpx {m ds} : nil1 m (.tpx ds) = .tpx ds := _root_.id rfl
@[simp] theorem ldc_ptx {p i0 o ds} : ldc p i0 o (.ptx ds) = .ptx ds := _root_.id rfl
@[simp] theorem nil1_ptx {m ds} : nil1 m (.ptx ds) = .ptx ds := _root_.id rfl
@[simp] theorem ldc_fnx {p i0 o g ds} : ldc p i0 o (.fnx g ds) = .fnx g ds := _root_.id rfl
@[simp] theorem nil1_fnx {m g ds} : nil1 m (.fnx g ds) = .fnx g ds := _root_.id rfl
@[simp] theorem nil1_nils {m} : nil1 m .nils = if m = 0 then .nils else .own m [] := _root_.id rfl
def slx (b : Bool) (es : List (List D)) : D := match b, es with
  | true, [] => .nils
  | _, es => .sl es
@[simp] theorem slx_false {es} : slx false es = .sl es := by cases es <;> rfl
@[simp] theorem slx_cons {b x es} : slx b (x :: es) = .sl (x :: es) := by cases b <;> rfl
theorem slx_cases (b : Bool) (es : List (List D)) : slx b es = .sl es ∨ (slx b es = .nils ∧ es = []) := by cases b <;> cases es <;> simp [slx]
@[simp] theorem isV_slx {b es} : isV (slx b es) = true := by cases b <;> cases es <;> rfl
@[simp] theorem isK_slx {b es} : isK (slx b es) = true := by cases b <;> cases es <;> rfl
@[simp] theorem isP_slx {b es} : isP (slx b es) = true := by cases b <;> cases es <;> rfl
@[simp] theorem isS_slx {b es} : isS (slx b es) = true := by cases b <;> cases es <;> rfl
@[simp] theorem isC1_slx {b es} : isC1 (slx b es) = true := by cases b <;> cases es <;> rfl
@[simp] theorem isO_slx {b es} : isO (slx b es) = false := by cases b <;> cases es <;> rfl
@[simp] theorem isAny_slx {b es} : isAny (slx b es) = false := by cases b <;> cases es <;> rfl
@[simp] theorem isB_slx {b es} : isB (slx b es) = false := by cases b <;> cases es <;> rfl
@[simp] theorem cellsOf_slx {b es} : cellsOf (slx b es) = [slx b es] := by cases b <;> cases es <;> rfl
@[simp] theorem aggOf_slx {b es} : aggOf (slx b es) = slx b es := by cases b <;> cases es <;> rfl
@[simp] theorem cellV_slx {b es} : cellV (slx b es) = slx b es := by cases b <;> cases es <;> rfl
@[simp] theorem mroots1_slx {b es} : mroots1 (slx b es) = [] := by cases b <;> cases es <;> rfl
@[simp] theorem mroots_slx {b es} : mroots (slx b es) = [] := by cases b <;> cases es <;> rfl
@[simp] theorem dp1_slx {f : Nat → D} {b es} : dp1 f (slx b es) = slx b es := by cases b <;> cases es <;> rfl
@[simp] theorem dp_slx {f : Nat → D} {b es} : dp f (slx b es) = slx b es := by cases b <;> cases es <;> rfl
@[simp] theorem dpOk1_slx {f : Nat → D} {b es} : dpOk1 f (slx b es) = True := by cases b <;> cases es <;> rfl
@[simp] theorem dpOk_slx {f : Nat → D} {b es} : dpOk f (slx b es) = True := by cases b <;> cases es <;> rfl
@[simp] theorem ldc_slx {p i o b es} : ldc p i o (slx b es) = slx b es := by cases b <;> cases es <;> rfl
def lenM (d : D) (K : Nat → Prop) (_ : Tag K) : Prop := match d with
  | .sl es => K es.length
  | .nils => K 0
  | .ref _ _ n => K n
  | _ => False
@[simp] theorem lenM_sl {es K u} : lenM (.sl es) K u = K es.length := _root_.id rfl
@[simp] theorem lenM_nils {K u} : lenM .nils K u = K 0 := _root_.id rfl
@[simp] theorem lenM_ref {p k n K u} : lenM (.ref p k n) K u = K n := _root_.id rfl
@[simp] theorem lenM_slx {b es K u} : lenM (slx b es) K u = K es.length := by cases b <;> cases es <;> rfl
@[simp] theorem pack_true {n ds} : pack true n ds = .agg (ds.take n) := _root_.id rfl
@[simp] theorem pack_false {n ds} : pack false n ds = ds.headD .any := _root_.id rfl
@[simp] theorem look_nil {t} : look [] t = .any := rfl
def lk (b : Bool) (d : D) (r : Env) (t : Nat) : D := match b with
  | true => d
  | false => look r t
@[simp] theorem lk_true {d r t} : lk true d r t = d := rfl
@[simp] theorem lk_false {d r t} : lk false d r t = look r t := rfl
@[simp] theorem look_cons {s d r t} : look ((s, d) :: r) t = lk (s == t) d r t := by
  by_cases h : s = t
  · subst h; simp [look]
  · rw [show (s == t) = false by simp [h]]; simp [look, h]
@[simp] theorem keepS_nil {e} : keepS [] e = [] := _root_.id rfl
@[simp] theorem keepS_cons {t ts e} : keepS (t :: ts) e = (t, look e t) :: keepS ts e := _root_.id rfl
@[simp] theorem rootsOf_nil : rootsOf [] = [] := _root_.id rfl
@[simp] theorem rootsOf_cons {t d r} : rootsOf ((t, d) :: r) = mroots d ++ rootsOf r := _root_.id rfl
@[simp] theorem addR_nil {e ks} : addR e [] ks = ks := _root_.id rfl
@[simp] theorem addR_cons {e r rs ks} : addR e (r :: rs) ks = addR e rs (if (ks.map (·.1)).contains r then ks else ks ++ [(r, look e r)]) := _root_.id rfl
def absT (f : Nat → D) (d : D) (ns : List Nat) (K : List D → List Nat → Prop) (_ : Tag K) : Prop := absW f d ns K
def abs1T (f : Nat → D) (d : D) (K : D → List Nat → Prop) (_ : Tag K) : Prop := abs1W f d K
def absLT (f : Nat → D) (ds : List D) (K : List D → List Nat → Prop) (_ : Tag K) : Prop := absLW f ds K
def ab1B (b n : Nat) (x : D) (K : D → List Nat → Prop) (_ : Tag K) : Prop := match x with
  | .blk sz es => es.length = n ∧ (∀ e ∈ es, ∀ c ∈ e, isC1 c = true) ∧ K (.own sz es) [b]
  | _ => False
@[simp] theorem ab1B_blk {b n sz es K u} : ab1B b n (.blk sz es) K u = (es.length = n ∧ (∀ e ∈ es, ∀ c ∈ e, isC1 c = true) ∧ K (.own sz es) [b]) := _root_.id rfl
theorem abs1T_c1 {f : Nat → D} {d : D} {K : D → List Nat → Prop} {u} (h : isC1 d = true) : abs1T f d K u = K d [] := by
  cases d <;> simp [isC1] at h <;> simp [abs1T, abs1W, isC1]
@[simp] theorem abs1T_ref {f b k n K u} : abs1T f (.ref (.r b) k n) K u = (k = 0 ∧ ab1B b n (f b) K ⟨⟩) := by
  simp only [abs1T, abs1W, ab1B]
  cases f b <;> rfl
theorem absT_c1 {f : Nat → D} {d : D} {K : List D → List Nat → Prop} {u} (h : isC1 d = true) : absT f d [] K u = K [d] [] := by
  cases d <;> simp [isC1] at h <;> simp [absT, absW, abs1W, isC1, nilC]
@[simp] theorem absT_agg {f ds K u} : absT f (.agg ds) [] K u = ((∀ c ∈ ds, isC1 c = true) ∧ K ds []) := by simp [absT, absW, nilC]
@[simp] theorem absT_agx {f ds K u} : absT f (.agx ds) [] K u = absLT f ds (fun cs bs => noDupN bs = true ∧ K cs bs) ⟨⟩ := by simp [absT, absLT, absW, nilC]
@[simp] theorem absT_ref {f b k n K u} : absT f (.ref (.r b) k n) [] K u = (k = 0 ∧ ab1B b n (f b) (fun c bs => K [c] bs) ⟨⟩) := by
  simp only [absT, absW, abs1W, ab1B, nilC, if_true, true_or, true_and]
  cases f b <;> rfl
@[simp] theorem absLT_nil {f K u} : absLT f [] K u = K [] [] := _root_.id rfl
@[simp] theorem absLT_cons {f d ds K u} : absLT f (d :: ds) K u = abs1T f d (fun c bs => absLT f ds (fun cs bs' => K (c :: cs) (bs ++ bs')) ⟨⟩) ⟨⟩ := _root_.id rfl
@[simp] theorem abs1T_int {f k n K u} : abs1T f (.int k n) K u = K (.int k n) [] := abs1T_c1 rfl
@[simp] theorem absT_int {f k n K u} : absT f (.int k n) [] K u = K [.int k n] [] := absT_c1 rfl
@[simp] theorem abs1T_bool {f n K u} : abs1T f (.bool n) K u = K (.bool n) [] := abs1T_c1 rfl
@[simp] theorem absT_bool {f n K u} : absT f (.bool n) [] K u = K [.bool n] [] := absT_c1 rfl
@[simp] theorem abs1T_str {f n K u} : abs1T f (.str n) K u = K (.str n) [] := abs1T_c1 rfl
@[simp] theorem absT_str {f n K u} : absT f (.str n) [] K u = K [.str n] [] := absT_c1 rfl
@[simp] theorem abs1T_nilp {f  K u} : abs1T f .nilp K u = K .nilp [] := abs1T_c1 rfl
@[simp] theorem absT_nilp {f  K u} : absT f .nilp [] K u = K [.nilp] [] := absT_c1 rfl
@[simp] theorem abs1T_nils {f  K u} : abs1T f .nils K u = K .nils [] := abs1T_c1 rfl
@[simp] theorem absT_nils {f  K u} : absT f .nils [] K u = K [.nils] [] := absT_c1 rfl
@[simp] theorem abs1T_sl {f n K u} : abs1T f (.sl n) K u = K (.sl n) [] := abs1T_c1 rfl
@[simp] theorem absT_sl {f n K u} : absT f (.sl n) [] K u = K [.sl n] [] := absT_c1 rfl
@[simp] theorem abs1T_ptr {f n K u} : abs1T f (.ptr n) K u = K (.ptr n) [] := abs1T_c1 rfl
@[simp] theorem absT_ptr {f n K u} : absT f (.ptr n) [] K u = K [.ptr n] [] := absT_c1 rfl
@[simp] theorem abs1T_fn {f g n K u} : abs1T f (.fn g n) K u = K (.fn g n) [] := abs1T_c1 rfl
@[simp] theorem absT_fn {f g n K u} : absT f (.fn g n) [] K u = K [.fn g n] [] := absT_c1 rfl
@[simp] theorem abs1T_slx {f b n K u} : abs1T f (slx b n) K u = K (slx b n) [] := abs1T_c1 (by simp)
@[simp] theorem absT_slx {f b n K u} : absT f (slx b n) [] K u = K [slx b n] [] := absT_c1 (by simp)
def partsT (f : Nat → D) (sz : Nat) (ps : List (Nat × Opd)) (es : List (List D)) (bs : List Nat) (K : List (List D) → List Nat → Prop) (_ : Tag K) : Prop := partsW f sz [] ps es bs K
@[simp] theorem partsT_nil {f sz es bs K u} : partsT f sz [] es bs K u = K es bs := _root_.id rfl
@[simp] theorem partsT_cons {f sz i x ps es bs K u} : partsT f sz ((i, x) :: ps) es bs K u = (i < es.length ∧ absT f (vd f x) [] (fun cs bs' => cs.length = sz ∧ partsT f sz ps (es.set i cs) (bs ++ bs') K ⟨⟩) ⟨⟩) := _root_.id rfl
def rowsT (f : Nat → D) (mv : Bool) (d : D) (sz : Nat) (K : List (List D) → List Nat → Prop) (_ : Tag K) : Prop := rowsW f mv d sz K
def rowB (b n sz : Nat) (x : D) (K : List (List D) → List Nat → Prop) (_ : Tag K) : Prop := match x with
  | .blk sz' es => sz' = sz ∧ es.length = n ∧ (∀ e ∈ es, ∀ c ∈ e, isC c = true) ∧ K es [b]
  | _ => False
@[simp] theorem rowB_blk {b n sz sz' es K u} : rowB b n sz (.blk sz' es) K u = (sz' = sz ∧ es.length = n ∧ (∀ e ∈ es, ∀ c ∈ e, isC c = true) ∧ K es [b]) := _root_.id rfl
def rowG (k n sz : Nat) (x : Option (Nat × List (List D))) (K : List (List D) → List Nat → Prop) (_ : Tag K) : Prop := match x with
  | some (sz', es) => sz' = sz ∧ k + n ≤ es.length ∧ (∀ e ∈ (es.drop k).take n, ∀ c ∈ e, isC1 c = true) ∧ K ((es.drop k).take n) []
  | none => False
@[simp] theorem rowG_some {k n sz sz' es K u} : rowG k n sz (some (sz', es)) K u = (sz' = sz ∧ k + n ≤ es.length ∧ (∀ e ∈ (es.drop k).take n, ∀ c ∈ e, isC1 c = true) ∧ K ((es.drop k).take n) []) := _root_.id rfl
@[simp] theorem rowsT_nils {f mv sz K u} : rowsT f mv .nils sz K u = K [] [] := _root_.id rfl
@[simp] theorem rowsT_sl {f mv es sz K u} : rowsT f mv (.sl es) sz K u = ((∀ e ∈ es, e.length = sz ∧ ∀ c ∈ e, isC1 c = true) ∧ K es []) := _root_.id rfl
@[simp] theorem rowsT_slx {f mv b es sz K u} : rowsT f mv (slx b es) sz K u = ((∀ e ∈ es, e.length = sz ∧ ∀ c ∈ e, isC1 c = true) ∧ K es []) := by
  rcases slx_cases b es with h | ⟨h, rfl⟩ <;> rw [h] <;> simp
@[simp] theorem rowsT_mv {f b k n sz K u} : rowsT f true (.ref (.r b) k n) sz K u = (k = 0 ∧ rowB b n sz (f b) K ⟨⟩) := by
  simp only [rowsT, rowsW, rowB]
  cases f b <;> rfl
@[simp] theorem rowsT_ref {f p k n sz K u} : rowsT f false (.ref p k n) sz K u = rowG k n sz (getP f p) K ⟨⟩ := by
  simp only [rowsT, rowsW, rowG]
  cases getP f p <;> rfl
def boundT (f : Nat → D) (o : Option Opd) (dflt : Nat) (K : Nat → Prop) (_ : Tag K) : Prop := bound f o dflt K
def bndI (d : D) (K : Nat → Prop) (_ : Tag K) : Prop := match d with
  | .int _ n => 0 ≤ n ∧ K n.toNat
  | _ => False
@[simp] theorem bndI_int {k n K u} : bndI (.int k n) K u = (0 ≤ n ∧ K n.toNat) := _root_.id rfl
@[simp] theorem boundT_none {f n K u} : boundT f none n K u = K n := _root_.id rfl
@[simp] theorem boundT_some {f x n K u} : boundT f (some x) n K u = bndI (vd f x) K ⟨⟩ := _root_.id rfl
def rowT (x : Option (List D)) (K : List D → Prop) (_ : Tag K) : Prop := match x with
  | some r => K r
  | none => False
@[simp] theorem rowT_some {r K u} : rowT (some r) K u = K r := _root_.id rfl
@[simp] theorem rowT_none {K u} : rowT none K u = False := _root_.id rfl
theorem rowT_eq {x : Option (List D)} {K : List D → Prop} {u} : rowT x K u = ∃ r, x = some r ∧ K r := by
  cases x <;> simp [rowT]
def ownT (x : Option D) (K : Nat → List (List D) → Prop) (_ : Tag K) : Prop := match x with
  | some (.own sz es) => K sz es
  | _ => False
@[simp] theorem ownT_own {sz es K u} : ownT (some (.own sz es)) K u = K sz es := _root_.id rfl
theorem ownT_eq {x : Option D} {K : Nat → List (List D) → Prop} {u} : ownT x K u = ∃ sz es, x = some (.own sz es) ∧ K sz es := by
  cases x with
  | none => simp [ownT]
  | some d =>
    cases d <;> simp [ownT]
    exact ⟨fun h => ⟨_, _, ⟨rfl, rfl⟩, h⟩, by rintro ⟨_, _, ⟨rfl, rfl⟩, h⟩; exact h⟩
def blkT (x : D) (K : Nat → List (List D) → Prop) (_ : Tag K) : Prop := match x with
  | .blk sz es => K sz es
  | _ => False
@[simp] theorem blkT_blk {sz es K u} : blkT (.blk sz es) K u = K sz es := _root_.id rfl
abbrev CC := Nat → List D → D → List D → Prop
abbrev KT := List (Nat × D) → List (Nat × Bool) → Prop
section
variable {C : CC} {Q : NExit → Env → Prop} {e e' : Env} {d : D}
def wN (C : CC) (c : NCode) (Q : NExit → Env → Prop) (_ : Tag (c, Q)) (e : Env) : Prop := wpN C c Q e
def loopW (C : CC) (c : NCode) (Q : NExit → Env → Prop) (_ : Tag (c, Q)) (e : Env) : Prop := wpN C (.loop c) Q e
def opsW (C : CC) (K : Env → Prop) (ns : List NOper) (_ : Tag (K, ns)) (e : Env) : Prop := wpNs C K ns e
def opsD (C : CC) (hs : List Nat) (K : Env → Prop) (ns : List NOper) (_ : Tag (K, ns)) (e : Env) (acc : List (List Nat × List Nat)) : Prop := wpNd C hs K ns e acc
def indW (hs : List Nat) (acc : List (List Nat × List Nat)) : Prop := indOk hs acc.reverse = true
theorem indW_of {hs : List Nat} {acc : List (List Nat × List Nat)} (h : indOk hs acc.reverse = true) : indW hs acc := h
def contT (C : CC) (K : Env → Prop) (ns : List NOper) (e : Env) : KT := fun ws ks => wpNs C K ns (ws ++ killE ks e)
def contD (C : CC) (hs : List Nat) (K : Env → Prop) (ns : List NOper) (e : Env) (R : List Nat) (acc : List (List Nat × List Nat)) : KT := fun ws ks => wOk R ws ks = true ∧ wpNd C hs K ns (ws ++ killE ks e) ((R, wrK ws ks) :: acc)
def doT (C : CC) (K : Env → Prop) (ns : List NOper) (_ : Tag (K, ns)) (e : Env) (ws : List (Nat × D)) (ks : List (Nat × Bool)) : Prop := wpNs C K ns (ws ++ killE ks e)
def endW (Q : NExit → Env → Prop) (_ : Tag Q) (t : NExit) (e : Env) : Prop := Q t e
def fin (res : List (Nat × Option (Nat × Bool))) (d : D) : NExit → Env → Prop := fun t e => (match t with
      | .ext _ => False
      | _ => True) ∧ retOk res d e
def seqK (C : CC) (y : NCode) (Q : NExit → Env → Prop) : NExit → Env → Prop := fun t e' => match t with
    | .nrm => wpN C y Q e'
    | t => Q t e'
def blockK (id : Nat) (Q : NExit → Env → Prop) : NExit → Env → Prop := fun t e' => match t with
    | .ext i => if i = id then Q .nrm e' else Q (.ext i) e'
    | t => Q t e'
def regK (keep : List Nat) (Q : NExit → Env → Prop) : Env → Prop := fun e' => Q .nrm (prune keep e')
def kOf (C : CC) (hs : Option (List Nat)) (K : Env → Prop) (ns : List NOper) (e : Env) (R : List Nat) (acc : List (List Nat × List Nat)) : KT :=
  match hs with
  | none => contT C K ns e
  | some hs => contD C hs K ns e R acc
def doW (C : CC) (hs : Option (List Nat)) (K : Env → Prop) (ns : List NOper) (_ : Tag (hs, K, ns)) (e : Env) (R : List Nat) (acc : List (List Nat × List Nat)) (ws : List (Nat × D)) (ks : List (Nat × Bool)) : Prop := kOf C hs K ns e R acc ws ks
def opW (C : CC) (hs : Option (List Nat)) (K : Env → Prop) (ns : List NOper) (dst : Option Nat) (op : NOp) (_ : Tag (hs, K, ns, dst, op)) (e : Env) (R : List Nat) (acc : List (List Nat × List Nat)) : Prop := resX C (look e) dst (kOf C hs K ns e R acc) op
def dW (C : CC) (hs : Option (List Nat)) (K : Env → Prop) (ns : List NOper) (dst : Option Nat) (_ : Tag (hs, K, ns)) (e : Env) (R : List Nat) (acc : List (List Nat × List Nat)) (d : D) : Prop := dstK dst (kOf C hs K ns e R acc) d
def callW (C : CC) (g : Nat) (hs : Option (List Nat)) (K : Env → Prop) (ns : List NOper) (dst : Option Nat) (_ : Tag (hs, K, ns)) (e : Env) (R : List Nat) (acc : List (List Nat × List Nat)) (pure : Bool) (ds : List D) : Prop :=
  ∃ d, C g ds d [] ∧ (isF d = true ∨ pure = true) ∧ dstK dst (kOf C hs K ns e R acc) d
theorem start {prog : Nat → Option NFun} (hC : Closed prog C) {g : Nat} {nf : NFun} {ds : List D} (hp : prog g = some nf) (hl : ds.length = nf.np) (h : wN C nf.body (fin nf.res d) ⟨⟩ (params 0 ds)) : C g ds d [] := hC.1 g nf ds d hp hl h
def finF (res : List (Nat × Option (Nat × Bool))) (sz : Nat) (es : List (List D)) : NExit → Env → Prop := fun t e => (match t with
      | .ext _ => False
      | _ => True) ∧ retOwn res sz es e
theorem startF {prog : Nat → Option NFun} (hC : Closed prog C) {g : Nat} {nf : NFun} {ds : List D} {sz : Nat} {es : List (List D)} (hp : prog g = some nf) (hl : ds.length = nf.np) (h : wN C nf.body (finF nf.res sz es) ⟨⟩ (params 0 ds)) : C g ds .any [.own sz es] := hC.2.2.1 g nf ds sz es hp hl h
def finG (res : List (Nat × Option (Nat × Bool))) (d : D) : NExit → Env → Prop := fun t e => (match t with
      | .ext _ => False
      | _ => True) ∧ retNew res d e
theorem startG {prog : Nat → Option NFun} (hC : Closed prog C) {g : Nat} {nf : NFun} {ds : List D} {d : D} (hp : prog g = some nf) (hl : ds.length = nf.np) (h : wN C nf.body (finG nf.res d) ⟨⟩ (params 0 ds)) : C g ds d [.nilp] := hC.2.2.2 g nf ds d hp hl h
def callGW (C : CC) (g : Nat) (hs : Option (List Nat)) (K : Env → Prop) (ns : List NOper) (dst : Option Nat) (_ : Tag (hs, K, ns)) (e : Env) (R : List Nat) (acc : List (List Nat × List Nat)) (ds : List D) : Prop :=
  ∃ d, C g ds d [.nilp] ∧ dstK dst (kOf C hs K ns e R acc) d
theorem callGW_of {g : Nat} {hs : Option (List Nat)} {K : Env → Prop} {ns : List NOper} {dst : Option Nat} {u : Tag (hs, K, ns)} {R : List Nat} {acc : List (List Nat × List Nat)} {ds : List D} {d : D} (h : C g ds d [.nilp]) (hk : dW C hs K ns dst ⟨⟩ e R acc d) : callGW C g hs K ns dst u e R acc ds := ⟨d, h, hk⟩
def callFW (C : CC) (g : Nat) (hs : Option (List Nat)) (K : Env → Prop) (ns : List NOper) (t : Nat) (_ : Tag (hs, K, ns)) (e : Env) (R : List Nat) (acc : List (List Nat × List Nat)) (ds : List D) : Prop :=
  ∃ sz es, C g ds .any [.own sz es] ∧ kOf C hs K ns e R acc [(t, .ref (.r (rt t 0)) 0 es.length), (rt t 0, .blk sz es)] [(rt t 0, true)]
theorem callFW_of {g : Nat} {hs : Option (List Nat)} {K : Env → Prop} {ns : List NOper} {t : Nat} {u : Tag (hs, K, ns)} {R : List Nat} {acc : List (List Nat × List Nat)} {ds : List D} {sz : Nat} {es : List (List D)} (h : C g ds .any [.own sz es]) (hk : doW C hs K ns ⟨⟩ e R acc [(t, .ref (.r (rt t 0)) 0 es.length), (rt t 0, .blk sz es)] [(rt t 0, true)]) : callFW C g hs K ns t u e R acc ds := ⟨sz, es, h, hk⟩
def callSW (C : CC) (g : Nat) (hs : Option (List Nat)) (K : Env → Prop) (ns : List NOper) (dst : Option Nat) (_ : Tag (hs, K, ns)) (e : Env) (R : List Nat) (acc : List (List Nat × List Nat)) (b sz : Nat) (es : List (List D)) (ds : List D) (p : Bool) : Prop := match dst with
  | none => ∃ es' : List (List D), es'.length = es.length ∧ (∀ e ∈ es', e.length = sz ∧ ∀ c ∈ e, isC1 c = true) ∧ (p = true ∨ ∀ e ∈ es', ∀ c ∈ e, isF1 c = true) ∧ C g (.own sz es :: ds) .any [.own sz es', .nilp] ∧ doW C hs K ns ⟨⟩ e R acc [(b, .blk sz es')] []
  | some t => (∃ es' : List (List D), es'.length = es.length ∧ (∀ e ∈ es', e.length = sz ∧ ∀ c ∈ e, isC1 c = true) ∧ (p = true ∨ ∀ e ∈ es', ∀ c ∈ e, isF1 c = true) ∧ C g (.own sz es :: ds) .any [.own sz es', .nilp] ∧ doW C hs K ns ⟨⟩ e R acc [(t, .tup []), (b, .blk sz es')] []) ∨ (b ≠ rt t 0 ∧ 0 < sz ∧ ∃ es' : List (List D), (∀ e ∈ es', e.length = sz ∧ ∀ c ∈ e, isC1 c = true) ∧ (p = true ∨ ∀ e ∈ es', ∀ c ∈ e, isF1 c = true) ∧ C g (.own sz es :: ds) .any [.own sz es', .nils] ∧ doW C hs K ns ⟨⟩ e R acc [(t, .ref (.r (rt t 0)) 0 es'.length), (rt t 0, .blk sz es'), (b, .any)] [(rt t 0, true)])
def srtB (C : CC) (g : Nat) (hs : Option (List Nat)) (K : Env → Prop) (ns : List NOper) (dst : Option Nat) (_ : Tag (hs, K, ns)) (e : Env) (R : List Nat) (acc : List (List Nat × List Nat)) (b n : Nat) (xs : List Opd) (d : D) : Prop := match d with
  | .blk sz es => es.length = n ∧ (∀ e ∈ es, ∀ c ∈ e, isC1 c = true) ∧ (∀ x ∈ xs, dpOk (fbE (look e) b) (vd (fbE (look e) b) x)) ∧ callSW C g hs K ns dst ⟨⟩ e R acc b sz es (xs.map (dpv (fbE (look e) b))) (xs.all fun y => isV (vd (fbE (look e) b) y))
  | _ => False
def srtM (C : CC) (g : Nat) (hs : Option (List Nat)) (K : Env → Prop) (ns : List NOper) (dst : Option Nat) (_ : Tag (hs, K, ns)) (e : Env) (R : List Nat) (acc : List (List Nat × List Nat)) (xs : List Opd) (d : D) : Prop := match d with
  | .ref (.r b) k n => k = 0 ∧ srtB C g hs K ns dst ⟨⟩ e R acc b n xs (look e b)
  | _ => False
@[simp] theorem fbE_ap {f : Nat → D} {b t : Nat} : fbE f b t = if t = b then .any else f t := _root_.id rfl
theorem callW_of {g : Nat} {hs : Option (List Nat)} {K : Env → Prop} {ns : List NOper} {dst : Option Nat} {u : Tag (hs, K, ns)} {R : List Nat} {acc : List (List Nat × List Nat)} {p : Bool} {ds : List D} (h : C g ds d []) (hf : isF d = true ∨ p = true) (hk : dW C hs K ns dst ⟨⟩ e R acc d) : callW C g hs K ns dst u e R acc p ds := ⟨d, h, hf, hk⟩
def roundK (S : Type) (G : S → Env) (I : S → Prop) (m : S → Nat) (s : S) (Q : NExit → Env → Prop) : NExit → Env → Prop := fun t e' => match t with
        | .nrm => ∃ s', I s' ∧ m s' < m s ∧ Weak e' (G s')
        | t => Q t e'
theorem loop_of {c : NCode} {u : Tag (c, Q)} (S : Type) (G : S → Env) (I : S → Prop) (m : S → Nat) (s0 : S) (h0 : I s0) (hw : Weak e (G s0))
    (h : ∀ s, I s → wN C c (roundK S G I m s Q) ⟨⟩ (G s)) : loopW C c Q u e := ⟨S, G, I, m, s0, h0, hw, h⟩
@[simp] theorem wN_skip {u} : wN C .skip Q u e = endW Q ⟨⟩ .nrm e := _root_.id rfl
@[simp] theorem wN_reg {hs keep ops u} : wN C (.reg false hs keep ops) Q u e = opsW C (regK keep Q) ops ⟨⟩ e := _root_.id rfl
@[simp] theorem wN_draw {hs keep ops u} : wN C (.reg true hs keep ops) Q u e = opsD C hs (regK keep Q) ops ⟨⟩ e [] := _root_.id rfl
@[simp] theorem wN_seq {x y u} : wN C (.seq x y) Q u e = wN C x (seqK C y Q) ⟨⟩ e := _root_.id rfl
def brB (b : Bool) (X Y : Prop) (_ : Tag (X, Y)) : Prop := (b = true → X) ∧ (b = false → Y)
theorem brB_of {b : Bool} {X Y : Prop} {u} (h1 : b = true → X) (h2 : b = false → Y) : brB b X Y u := ⟨h1, h2⟩
@[simp] theorem brB_true {X Y : Prop} {u} : brB true X Y u = X := by simp [brB]
@[simp] theorem brB_false {X Y : Prop} {u} : brB false X Y u = Y := by simp [brB]
def cdW (C : CC) (x y : NCode) (Q : NExit → Env → Prop) (_ : Tag (x, y, Q)) (e : Env) (d : D) : Prop := match d with
  | .bool b => brB b (wN C x Q ⟨⟩ e) (wN C y Q ⟨⟩ e) ⟨⟩
  | .bb => wN C x Q ⟨⟩ e ∧ wN C y Q ⟨⟩ e
  | _ => False
@[simp] theorem cdW_bb {x y u} : cdW C x y Q u e .bb = (wN C x Q ⟨⟩ e ∧ wN C y Q ⟨⟩ e) := _root_.id rfl
@[simp] theorem cdW_bool {x y u b} : cdW C x y Q u e (.bool b) = brB b (wN C x Q ⟨⟩ e) (wN C y Q ⟨⟩ e) ⟨⟩ := _root_.id rfl
@[simp] theorem wN_cond {c x y u} : wN C (.cond c x y) Q u e = cdW C x y Q ⟨⟩ e (vd (look e) c) := _root_.id rfl
@[simp] theorem wN_block {id c u} : wN C (.block id c) Q u e = wN C c (blockK id Q) ⟨⟩ e := _root_.id rfl
@[simp] theorem wN_loop {c u} : wN C (.loop c) Q u e = loopW C c Q ⟨⟩ e := _root_.id rfl
@[simp] theorem wN_exit {id u} : wN C (.exit id) Q u e = endW Q ⟨⟩ (.ext id) e := _root_.id rfl
@[simp] theorem wN_ret {u} : wN C .ret Q u e = endW Q ⟨⟩ .ret e := _root_.id rfl
@[simp] theorem endW_seq_nrm {y u} : endW (seqK C y Q) u .nrm e = wN C y Q ⟨⟩ e := _root_.id rfl
@[simp] theorem endW_seq_ext {y u i} : endW (seqK C y Q) u (.ext i) e = endW Q ⟨⟩ (.ext i) e := _root_.id rfl
@[simp] theorem endW_seq_ret {y u} : endW (seqK C y Q) u .ret e = endW Q ⟨⟩ .ret e := _root_.id rfl
@[simp] theorem endW_block_nrm {id u} : endW (blockK id Q) u .nrm e = endW Q ⟨⟩ .nrm e := _root_.id rfl
@[simp] theorem endW_block_ext {id u i} : endW (blockK id Q) u (.ext i) e = if i = id then endW Q ⟨⟩ .nrm e else endW Q ⟨⟩ (.ext i) e := _root_.id rfl
@[simp] theorem endW_block_ret {id u} : endW (blockK id Q) u .ret e = endW Q ⟨⟩ .ret e := _root_.id rfl
@[simp] theorem endW_fin_nrm {r u} : endW (fin r d) u .nrm e = retOk r d e := by simp [endW, fin]
@[simp] theorem endW_fin_ret {r u} : endW (fin r d) u .ret e = retOk r d e := by simp [endW, fin]
@[simp] theorem endW_finG_nrm {r d} {u : Tag (finG r d)} : endW (finG r d) u .nrm e = retNew r d e := by simp [endW, finG]
@[simp] theorem endW_finG_ret {r d} {u : Tag (finG r d)} : endW (finG r d) u .ret e = retNew r d e := by simp [endW, finG]
@[simp] theorem endW_finF_nrm {r sz es} {u : Tag (finF r sz es)} : endW (finF r sz es) u .nrm e = retOwn r sz es e := by simp [endW, finF]
@[simp] theorem endW_finF_ret {r sz es} {u : Tag (finF r sz es)} : endW (finF r sz es) u .ret e = retOwn r sz es e := by simp [endW, finF]
@[simp] theorem endW_round_nrm {S G I m s u} : endW (roundK S G I m s Q) u .nrm e = ∃ s', I s' ∧ m s' < m s ∧ Weak e (G s') := _root_.id rfl
@[simp] theorem endW_round_ext {S G I m s u i} : endW (roundK S G I m s Q) u (.ext i) e = endW Q ⟨⟩ (.ext i) e := _root_.id rfl
@[simp] theorem endW_round_ret {S G I m s u} : endW (roundK S G I m s Q) u .ret e = endW Q ⟨⟩ .ret e := _root_.id rfl
end
section
variable {C : CC} {Q : NExit → Env → Prop} {e : Env} {K : Env → Prop} {dst : Option Nat} {d : D} {hs : Option (List Nat)} {ns : List NOper} {R : List Nat} {acc : List (List Nat × List Nat)} {u : Tag (hs, K, ns)}
@[simp] theorem opsW_nil {keep u} : opsW C (regK keep Q) [] u e = endW Q ⟨⟩ .nrm (prune keep e) := _root_.id rfl
@[simp] theorem opsD_nil {h keep u} : opsD C h (regK keep Q) [] u e acc = (indW h acc ∧ endW Q ⟨⟩ .nrm (prune keep e)) := _root_.id rfl
@[simp] theorem opsW_none {dst op ns u} : opsW C K (⟨dst, op, none⟩ :: ns) u e = opW C none K ns dst op ⟨⟩ e [] [] := _root_.id rfl
@[simp] theorem opsD_none {h dst op ns u} : opsD C h K (⟨dst, op, none⟩ :: ns) u e acc = (chk (look e) ⟨dst, op, none⟩ = true ∧ opW C (some h) K ns dst op ⟨⟩ e (encR (look e) ⟨dst, op, none⟩) acc) := _root_.id rfl
def skipD (C : CC) (h : List Nat) (K : Env → Prop) (ns : List NOper) (_ : Tag (h, K, ns)) (e : Env) (dst : Option Nat) (R : List Nat) (acc : List (List Nat × List Nat)) : Prop := skipE e dst fun e' => wpNd C h K ns e' ((R, dstL dst) :: acc)
@[simp] theorem skipD_some {h t ns u} : skipD C h K ns u e (some t) R acc = opsD C h K ns ⟨⟩ ((t, .tup []) :: e) ((R, [2 * t]) :: acc) := _root_.id rfl
@[simp] theorem skipD_none {h ns u} : skipD C h K ns u e none R acc = opsD C h K ns ⟨⟩ e ((R, []) :: acc) := _root_.id rfl
def gdT (C : CC) (K : Env → Prop) (ns : List NOper) (dst : Option Nat) (op : NOp) (s : Nat) (want : Bool) (_ : Tag (K, ns)) (e : Env) (d : D) : Prop := match d with
  | .bool b => (b = want → opW C none K ns dst op ⟨⟩ ((s, .bool want) :: e) [] []) ∧ (b = !want → dW C none K ns dst ⟨⟩ ((s, .bool !want) :: e) [] [] (.tup []))
  | .tup [] => dW C none K ns dst ⟨⟩ e [] [] (.tup [])
  | _ => False
@[simp] theorem gdT_true {op s b u} : gdT C K ns dst op s true u e (.bool b) = brB b (opW C none K ns dst op ⟨⟩ ((s, .bool true) :: e) [] []) (dW C none K ns dst ⟨⟩ ((s, .bool false) :: e) [] [] (.tup [])) ⟨⟩ := _root_.id rfl
@[simp] theorem gdT_false {op s b u} : gdT C K ns dst op s false u e (.bool b) = brB b (dW C none K ns dst ⟨⟩ ((s, .bool true) :: e) [] [] (.tup [])) (opW C none K ns dst op ⟨⟩ ((s, .bool false) :: e) [] []) ⟨⟩ := by
  simp only [gdT, brB, Bool.not_false]; exact propext ⟨fun h => ⟨h.2, h.1⟩, fun h => ⟨h.2, h.1⟩⟩
@[simp] theorem gdT_skip {op s want u} : gdT C K ns dst op s want u e (.tup []) = dW C none K ns dst ⟨⟩ e [] [] (.tup []) := _root_.id rfl
@[simp] theorem opsW_some {dst op s want ns u} : opsW C K (⟨dst, op, some (s, want)⟩ :: ns) u e = gdT C K ns dst op s want ⟨⟩ e (look e s) := by
  simp only [opsW, wpNs, opW, wpOp1, skipE, gdT, dW, dstK, kOf, contT, killE]
  cases look e s <;> cases dst <;> (first | rfl | (rename_i x _ ; cases x <;> rfl) | (rename_i x; cases x <;> rfl))
def gdD (C : CC) (h : List Nat) (K : Env → Prop) (ns : List NOper) (dst : Option Nat) (op : NOp) (want : Bool) (_ : Tag (K, ns)) (e : Env) (R : List Nat) (acc : List (List Nat × List Nat)) (d : D) : Prop := match d with
  | .bool b => (b = want → opW C (some h) K ns dst op ⟨⟩ e R acc) ∧ (b = !want → skipD C h K ns ⟨⟩ e dst R acc)
  | .tup [] => skipD C h K ns ⟨⟩ e dst R acc
  | _ => False
@[simp] theorem gdD_true {h op b u} : gdD C h K ns dst op true u e R acc (.bool b) = brB b (opW C (some h) K ns dst op ⟨⟩ e R acc) (skipD C h K ns ⟨⟩ e dst R acc) ⟨⟩ := _root_.id rfl
@[simp] theorem gdD_false {h op b u} : gdD C h K ns dst op false u e R acc (.bool b) = brB b (skipD C h K ns ⟨⟩ e dst R acc) (opW C (some h) K ns dst op ⟨⟩ e R acc) ⟨⟩ := by
  simp only [gdD, brB, Bool.not_false]; exact propext ⟨fun h => ⟨h.2, h.1⟩, fun h => ⟨h.2, h.1⟩⟩
@[simp] theorem gdD_skip {h op want u} : gdD C h K ns dst op want u e R acc (.tup []) = skipD C h K ns ⟨⟩ e dst R acc := _root_.id rfl
@[simp] theorem opsD_some {h dst op s want ns u} : opsD C h K (⟨dst, op, some (s, want)⟩ :: ns) u e acc = (chk (look e) ⟨dst, op, some (s, want)⟩ = true ∧ gdD C h K ns dst op want ⟨⟩ e (encR (look e) ⟨dst, op, some (s, want)⟩) acc (look e s)) := _root_.id rfl
@[simp] theorem doW_text {K ns u ws ks} : doW C none K ns u e R acc ws ks = opsW C K ns ⟨⟩ (ws ++ killE ks e) := _root_.id rfl
@[simp] theorem doW_draw {h K ns u ws ks} : doW C (some h) K ns u e R acc ws ks = (wOk R ws ks = true ∧ opsD C h K ns ⟨⟩ (ws ++ killE ks e) ((R, wrK ws ks) :: acc)) := _root_.id rfl
@[simp] theorem dW_some {t} : dW C hs K ns (some t) u e R acc d = doW C hs K ns ⟨⟩ e R acc [(t, d)] [] := _root_.id rfl
@[simp] theorem dW_none : dW C hs K ns none u e R acc d = doW C hs K ns ⟨⟩ e R acc [] [] := _root_.id rfl
def kill1 (ks : List (Nat × Bool)) (d : D) : D := if mentL ks d then .any else d
theorem kill1_eq (ks : List (Nat × Bool)) (d : D) : kill1 ks d = bif mentL ks d then .any else d := by
  unfold kill1; cases mentL ks d <;> rfl
@[simp] theorem killE_nil : killE [] e = e := _root_.id rfl
@[simp] theorem killE_emp {k ks} : killE (k :: ks) [] = [] := _root_.id rfl
@[simp] theorem killE_cons {k ks s d} : killE (k :: ks) ((s, d) :: e) = (s, kill1 (k :: ks) d) :: killE (k :: ks) e := _root_.id rfl
@[simp] theorem kill1_any {ks} : kill1 ks .any = .any := by simp [kill1]
@[simp] theorem kill1_int {ks k n} : kill1 ks (.int k n) = .int k n := by simp [kill1, mentL, ment, ment1]
@[simp] theorem kill1_bool {ks n} : kill1 ks (.bool n) = .bool n := by simp [kill1, mentL, ment, ment1]
@[simp] theorem kill1_str {ks n} : kill1 ks (.str n) = .str n := by simp [kill1, mentL, ment, ment1]
@[simp] theorem kill1_bb {ks} : kill1 ks .bb = .bb := by simp [kill1, mentL, ment, ment1]
@[simp] theorem kill1_nilp {ks} : kill1 ks .nilp = .nilp := by simp [kill1, mentL, ment, ment1]
@[simp] theorem kill1_nils {ks} : kill1 ks .nils = .nils := by simp [kill1, mentL, ment, ment1]
@[simp] theorem kill1_agg {ks n} : kill1 ks (.agg n) = .agg n := by simp [kill1, mentL, ment, ment1]
@[simp] theorem kill1_tup {ks n} : kill1 ks (.tup n) = .tup n := by simp [kill1, mentL, ment, ment1]
@[simp] theorem kill1_sl {ks n} : kill1 ks (.sl n) = .sl n := by simp [kill1, mentL, ment, ment1]
@[simp] theorem kill1_ptr {ks n} : kill1 ks (.ptr n) = .ptr n := by simp [kill1, mentL, ment, ment1]
@[simp] theorem kill1_fn {ks g n} : kill1 ks (.fn g n) = .fn g n := by simp [kill1, mentL, ment, ment1]
@[simp] theorem kill1_blk {ks g n} : kill1 ks (.blk g n) = .blk g n := by simp [kill1, mentL, ment, ment1]
@[simp] theorem kill1_mp {ks kt et xs vs} : kill1 ks (.mp kt et xs vs) = .mp kt et xs vs := by simp [kill1, mentL, ment, ment1]
@[simp] theorem kill1_ref {b all ks p k n} : kill1 ((b, all) :: ks) (.ref p k n) = if mentP b all p then .any else kill1 ks (.ref p k n) := by
  have h : kill1 ((b, all) :: ks) (.ref p k n) = bif (mentP b all p || mentL ks (.ref p k n)) then .any else .ref p k n := kill1_eq ..
  rw [h, kill1_eq]
  cases mentP b all p <;> rfl
@[simp] theorem kill1_adr {b all ks p k n} : kill1 ((b, all) :: ks) (.adr p k n) = if mentP b all p then .any else kill1 ks (.adr p k n) := by
  have h : kill1 ((b, all) :: ks) (.adr p k n) = bif (mentP b all p || mentL ks (.adr p k n)) then .any else .adr p k n := kill1_eq ..
  rw [h, kill1_eq]
  cases mentP b all p <;> rfl
@[simp] theorem kill1_agx {b all ks n} : kill1 ((b, all) :: ks) (.agx n) = if n.any (ment1 b all) then .any else kill1 ks (.agx n) := by
  have h : kill1 ((b, all) :: ks) (.agx n) = bif (n.any (ment1 b all) || mentL ks (.agx n)) then .any else .agx n := kill1_eq ..
  rw [h, kill1_eq]
  cases n.any (ment1 b all) <;> rfl
@[simp] theorem kill1_fnx {b all ks g n} : kill1 ((b, all) :: ks) (.fnx g n) = if n.any (ment1 b all) then .any else kill1 ks (.fnx g n) := by
  have h : kill1 ((b, all) :: ks) (.fnx g n) = bif (n.any (ment1 b all) || mentL ks (.fnx g n)) then .any else .fnx g n := kill1_eq ..
  rw [h, kill1_eq]
  cases n.any (ment1 b all) <;> rfl
@[simp] theorem kill1_nil {d} : kill1 [] d = d := by simp [kill1, mentL]
@[simp] theorem kill1_slx {ks b es} : kill1 ks (slx b es) = slx b es := by cases b <;> cases es <;> simp [slx]
def idxW (C : CC) (hs : Option (List Nat)) (K : Env → Prop) (ns : List NOper) (dst : Option Nat) (_ : Tag (hs, K, ns)) (e : Env) (R : List Nat) (acc : List (List Nat × List Nat)) (sz : Nat) (es : List (List D)) (i : Nat) : Prop :=
  ∃ c, es[i]? = some c ∧ c.length = sz ∧ dstK dst (kOf C hs K ns e R acc) (.ptr c)
@[simp] theorem idxW_map {α : Type} [Inhabited α] {sz : Nat} {xs : List α} {f : α → List D} {i : Nat} : idxW C hs K ns dst u e R acc sz (xs.map f) i = (i < xs.length ∧ (f xs[i]!).length = sz ∧ dW C hs K ns dst ⟨⟩ e R acc (.ptr (f xs[i]!))) := by
  apply propext
  unfold idxW dW
  constructor
  · rintro ⟨c, h, h1, h2⟩
    rw [List.getElem?_map, Option.map_eq_some_iff] at h
    obtain ⟨x, hx, rfl⟩ := h
    obtain ⟨hi, rfl⟩ := List.getElem?_eq_some_iff.1 hx
    rw [getElem!_pos xs i hi]
    exact ⟨hi, h1, h2⟩
  · rintro ⟨hi, h1, h2⟩
    rw [getElem!_pos xs i hi] at h1 h2
    exact ⟨_, by rw [List.getElem?_map, List.getElem?_eq_getElem hi]; rfl, h1, h2⟩
def bytW (C : CC) (hs : Option (List Nat)) (K : Env → Prop) (ns : List NOper) (dst : Option Nat) (_ : Tag (hs, K, ns)) (e : Env) (R : List Nat) (acc : List (List Nat × List Nat)) (s : List UInt8) (i : Nat) : Prop :=
  ∃ b, s[i]? = some b ∧ dstK dst (kOf C hs K ns e R acc) (.int .u8 b.toNat)
@[simp] theorem bytW_eq {s : List UInt8} {i : Nat} : bytW C hs K ns dst u e R acc s i = (i < s.length ∧ dW C hs K ns dst ⟨⟩ e R acc (.int .u8 (s[i]!).toNat)) := by
  apply propext
  unfold bytW dW
  constructor
  · rintro ⟨b, h, h2⟩
    obtain ⟨hi, rfl⟩ := List.getElem?_eq_some_iff.1 h
    rw [getElem!_pos s i hi]
    exact ⟨hi, h2⟩
  · rintro ⟨hi, h2⟩
    rw [getElem!_pos s i hi] at h2
    exact ⟨_, List.getElem?_eq_getElem hi, h2⟩
def rowW (C : CC) (hs : Option (List Nat)) (K : Env → Prop) (ns : List NOper) (dst : Option Nat) (_ : Tag (hs, K, ns)) (e : Env) (R : List Nat) (acc : List (List Nat × List Nat)) (n : Nat) (ag : Bool) (p : Pa) (es : List (List D)) (i off : Nat) : Prop :=
  ∃ r, es[i]? = some r ∧ off + n ≤ r.length ∧ match ag with
        | true => (((r.drop off).take n).all isV = true → dstK dst (kOf C hs K ns e R acc) (.agg ((r.drop off).take n))) ∧
            (((r.drop off).take n).all isV = false → dstK dst (kOf C hs K ns e R acc) (.agx (((r.drop off).take n).mapIdx fun j c => ldc p i (off + j) c)))
        | false => dstK dst (kOf C hs K ns e R acc) (ldc p i off ((r.drop off).headD .any))
theorem rowW_of {n : Nat} {ag : Bool} {p : Pa} {es : List (List D)} {i off : Nat} {r : List D} (hr : es[i]? = some r) (hl : off + n ≤ r.length) (hk : match ag with
        | true => (((r.drop off).take n).all isV = true → dW C hs K ns dst ⟨⟩ e R acc (.agg ((r.drop off).take n))) ∧
            (((r.drop off).take n).all isV = false → dW C hs K ns dst ⟨⟩ e R acc (.agx (((r.drop off).take n).mapIdx fun j c => ldc p i (off + j) c)))
        | false => dW C hs K ns dst ⟨⟩ e R acc (ldc p i off ((r.drop off).headD .any))) : rowW C hs K ns dst u e R acc n ag p es i off := by
  refine ⟨r, hr, hl, ?_⟩
  cases ag <;> exact hk
@[simp] theorem rowW_one {n : Nat} {ag : Bool} {p : Pa} {r : List D} {off : Nat} : rowW C hs K ns dst u e R acc n ag p [r] 0 off = (off + n ≤ r.length ∧ match ag with
        | true => (((r.drop off).take n).all isV = true → dW C hs K ns dst ⟨⟩ e R acc (.agg ((r.drop off).take n))) ∧
            (((r.drop off).take n).all isV = false → dW C hs K ns dst ⟨⟩ e R acc (.agx (((r.drop off).take n).mapIdx fun j c => ldc p 0 (off + j) c)))
        | false => dW C hs K ns dst ⟨⟩ e R acc (ldc p 0 off ((r.drop off).headD .any))) := by
  apply propext
  constructor
  · rintro ⟨r', h1, h2, h3⟩
    simp at h1; subst h1
    refine ⟨h2, ?_⟩
    cases ag <;> exact h3
  · rintro ⟨h2, h3⟩
    refine ⟨r, rfl, h2, ?_⟩
    cases ag <;> exact h3
end
section
variable {C : CC} {Q : NExit → Env → Prop} {e : Env} {K : Env → Prop} {dst : Option Nat} {hs : Option (List Nat)} {ns : List NOper} {R : List Nat} {acc : List (List Nat × List Nat)} {u : Tag (hs, K, ns)}
@[simp] theorem opW_mov {x v1} : opW C hs K ns dst (.mov x) v1 e R acc = (isS (vd (look e) x) = true ∧ dW C hs K ns dst ⟨⟩ e R acc (vd (look e) x)) := _root_.id rfl
@[simp] theorem opW_nck {x v1} : opW C hs K ns dst (.nck x) v1 e R acc = (match (generalizing := false) vd (look e) x with
    | .ptr ds => dW C hs K ns dst ⟨⟩ e R acc (.ptr ds)
    | .adr p i off => dW C hs K ns dst ⟨⟩ e R acc (.adr p i off)
    | .ptx ds => dW C hs K ns dst ⟨⟩ e R acc (.ptx ds)
    | _ => False) := _root_.id rfl
@[simp] theorem opW_pick {c a b v1} : opW C hs K ns dst (.pick c a b) v1 e R acc = (match (generalizing := false) vd (look e) c with
    | .bool v => (v = true → isS (vd (look e) a) = true ∧ dW C hs K ns dst ⟨⟩ e R acc (vd (look e) a)) ∧ (v = false → isS (vd (look e) b) = true ∧ dW C hs K ns dst ⟨⟩ e R acc (vd (look e) b))
    | _ => False) := _root_.id rfl
@[simp] theorem opW_bin {op x y v1} : opW C hs K ns dst (.bin op x y) v1 e R acc = (match (generalizing := false) vd (look e) x, vd (look e) y with
    | .int k a, .int k' b => match (generalizing := false) op with
      | .add => k = k' ∧ dW C hs K ns dst ⟨⟩ e R acc (.int k (k.wrap (a + b)))
      | .sub => k = k' ∧ dW C hs K ns dst ⟨⟩ e R acc (.int k (k.wrap (a - b)))
      | .mul => k = k' ∧ dW C hs K ns dst ⟨⟩ e R acc (.int k (k.wrap (a * b)))
      | .quo => k = k' ∧ b ≠ 0 ∧ dW C hs K ns dst ⟨⟩ e R acc (.int k (k.wrap (a.tdiv b)))
      | .rem => k = k' ∧ b ≠ 0 ∧ dW C hs K ns dst ⟨⟩ e R acc (.int k (a.tmod b))
      | .and => k = k' ∧ dW C hs K ns dst ⟨⟩ e R acc (.int k (bits .and k a b))
      | .or => k = k' ∧ dW C hs K ns dst ⟨⟩ e R acc (.int k (bits .or k a b))
      | .xor => k = k' ∧ dW C hs K ns dst ⟨⟩ e R acc (.int k (bits .xor k a b))
      | .andNot => k = k' ∧ dW C hs K ns dst ⟨⟩ e R acc (.int k (bits .andNot k a b))
      | .shl => 0 ≤ b ∧ dW C hs K ns dst ⟨⟩ e R acc (.int k (k.wrap (a * 2 ^ (min b.toNat k.bits))))
      | .shr => 0 ≤ b ∧ dW C hs K ns dst ⟨⟩ e R acc (.int k (a.fdiv (2 ^ (min b.toNat k.bits))))
      | .eql => k = k' ∧ dW C hs K ns dst ⟨⟩ e R acc (.bool (decide (a = b)))
      | .neq => k = k' ∧ dW C hs K ns dst ⟨⟩ e R acc (.bool (!decide (a = b)))
      | .lss => k = k' ∧ dW C hs K ns dst ⟨⟩ e R acc (.bool (decide (a < b)))
      | .leq => k = k' ∧ dW C hs K ns dst ⟨⟩ e R acc (.bool (decide (a ≤ b)))
      | .gtr => k = k' ∧ dW C hs K ns dst ⟨⟩ e R acc (.bool (decide (b < a)))
      | .geq => k = k' ∧ dW C hs K ns dst ⟨⟩ e R acc (.bool (decide (b ≤ a)))
    | .str a, .str b => match (generalizing := false) op with
      | .eql => dW C hs K ns dst ⟨⟩ e R acc (.bool (decide (a = b)))
      | .neq => dW C hs K ns dst ⟨⟩ e R acc (.bool (!decide (a = b)))
      | .add => ((a ++ b).length : Int) ≤ 9223372036854775807 ∧ dW C hs K ns dst ⟨⟩ e R acc (.str (a ++ b))
      | _ => False
    | _, _ => False) := _root_.id rfl
@[simp] theorem opW_un {op x v1} : opW C hs K ns dst (.un op x) v1 e R acc = (match (generalizing := false) vd (look e) x with
    | .bool b => match (generalizing := false) op with
      | .not => dW C hs K ns dst ⟨⟩ e R acc (.bool (!b))
      | _ => False
    | .int k n => match (generalizing := false) op with
      | .neg => dW C hs K ns dst ⟨⟩ e R acc (.int k (k.wrap (0 - n)))
      | _ => False
    | _ => False) := _root_.id rfl
@[simp] theorem opW_conv {k x v1} : opW C hs K ns dst (.conv k x) v1 e R acc = (match (generalizing := false) vd (look e) x with
    | .int _ n => dW C hs K ns dst ⟨⟩ e R acc (.int k (k.wrap n))
    | _ => False) := _root_.id rfl
@[simp] theorem opW_beq {neg ks x y v1} : opW C hs K ns dst (.beq neg ks x y) v1 e R acc = (match (generalizing := false) vd (look e) x, vd (look e) y with
    | .bool a, .bool b => ks = [] ∧ dW C hs K ns dst ⟨⟩ e R acc (.bool ((a == b) != neg))
    | .agg a, .agg b => ks ≠ [] ∧ match (generalizing := false) flatEq ks a b with
      | some r => dW C hs K ns dst ⟨⟩ e R acc (.bool (r != neg))
      | none => False
    | .nils, .nils => ks = [9] ∧ dW C hs K ns dst ⟨⟩ e R acc (.bool (!neg))
    | .sl es, .nils => ks = [9] ∧ (0 < es.length → dW C hs K ns dst ⟨⟩ e R acc (.bool neg)) ∧ (es.length = 0 → dW C hs K ns dst ⟨⟩ e R acc .bb)
    | _, _ => False) := _root_.id rfl
@[simp] theorem opW_fld {off n ag x v1} : opW C hs K ns dst (.fld off n ag x) v1 e R acc = (match (generalizing := false) vd (look e) x with
    | .agg ds => off + n ≤ ds.length ∧ dW C hs K ns dst ⟨⟩ e R acc (pack ag n (ds.drop off))
    | .agx ds => off + n ≤ ds.length ∧ match (generalizing := false) ag with
      | true => dW C hs K ns dst ⟨⟩ e R acc (.agx ((ds.drop off).take n))
      | false => dW C hs K ns dst ⟨⟩ e R acc ((ds.drop off).headD .any)
    | _ => False) := _root_.id rfl
@[simp] theorem opW_idxA {len sz ag x i v1} : opW C hs K ns dst (.idxA len sz ag x i) v1 e R acc = (match (generalizing := false) vd (look e) x, vd (look e) i with
    | .agg ds, .int _ j => 0 ≤ j ∧ j < len ∧ j.toNat * sz + sz ≤ ds.length ∧ dW C hs K ns dst ⟨⟩ e R acc (pack ag sz (ds.drop (j.toNat * sz)))
    | .agx ds, .int _ j => 0 ≤ j ∧ j < len ∧ j.toNat * sz + sz ≤ ds.length ∧ match (generalizing := false) ag with
      | true => dW C hs K ns dst ⟨⟩ e R acc (.agx ((ds.drop (j.toNat * sz)).take sz))
      | false => dW C hs K ns dst ⟨⟩ e R acc ((ds.drop (j.toNat * sz)).headD .any)
    | _, _ => False) := _root_.id rfl
@[simp] theorem opW_slA {len sz x v1} : opW C hs K ns dst (.slA len sz x) v1 e R acc = (match (generalizing := false) vd (look e) x with
    | .ptr ds => 0 < len ∧ 0 < sz ∧ len * sz ≤ ds.length ∧ dW C hs K ns dst ⟨⟩ e R acc (.sl (chunks sz len ds))
    | _ => False) := _root_.id rfl
@[simp] theorem opW_cvS {x v1} : opW C hs K ns dst (.cvS x) v1 e R acc = (match (generalizing := false) vd (look e) x with
    | .sl es => 0 < es.length ∧ (∀ r ∈ es, ∃ n : Nat, r = [.int .u8 n] ∧ n < 256) ∧ dW C hs K ns dst ⟨⟩ e R acc (.str (es.map byteOf))
    | _ => False) := _root_.id rfl
@[simp] theorem opW_idxS {x i v1} : opW C hs K ns dst (.idxS x i) v1 e R acc = (match (generalizing := false) vd (look e) x, vd (look e) i with
    | .str s, .int _ j => 0 ≤ j ∧ bytW C hs K ns dst ⟨⟩ e R acc s j.toNat
    | _, _ => False) := _root_.id rfl
@[simp] theorem opW_ext {i x v1} : opW C hs K ns dst (.ext i x) v1 e R acc = (match (generalizing := false) vd (look e) x with
    | .tup ds => ∃ d, ds[i]? = some d ∧ dW C hs K ns dst ⟨⟩ e R acc d
    | .tpx ds => ∃ d, ds[i]? = some d ∧ dW C hs K ns dst ⟨⟩ e R acc d
    | _ => False) := _root_.id rfl
@[simp] theorem opW_fad {off x v1} : opW C hs K ns dst (.fad off x) v1 e R acc = (match (generalizing := false) vd (look e) x with
    | .adr p i o => dW C hs K ns dst ⟨⟩ e R acc (.adr p i (o + off))
    | .ptr ds => dW C hs K ns dst ⟨⟩ e R acc (.ptr (ds.drop off))
    | .ptx ds => dW C hs K ns dst ⟨⟩ e R acc (.ptx (ds.drop off))
    | _ => False) := _root_.id rfl
@[simp] theorem opW_iadA {len sz x i v1} : opW C hs K ns dst (.iadA len sz x i) v1 e R acc = (match (generalizing := false) vd (look e) x, vd (look e) i with
    | .adr p r o, .int _ j => 0 ≤ j ∧ j < len ∧ dW C hs K ns dst ⟨⟩ e R acc (.adr p r (o + j.toNat * sz))
    | .ptr ds, .int _ j => 0 ≤ j ∧ j < len ∧ dW C hs K ns dst ⟨⟩ e R acc (.ptr (ds.drop (j.toNat * sz)))
    | _, _ => False) := _root_.id rfl
@[simp] theorem opW_ld {n ag x v1} : opW C hs K ns dst (.ld n ag x) v1 e R acc = (match (generalizing := false) vd (look e) x with
    | .adr p i off => match (generalizing := false) getP (look e) p with
      | some (_, es) => rowW C hs K ns dst ⟨⟩ e R acc n ag p es i off
      | none => False
    | .ptr ds => n ≤ ds.length ∧ dW C hs K ns dst ⟨⟩ e R acc (pack ag n ds)
    | .ptx ds => n ≤ ds.length ∧ match (generalizing := false) ag with
      | true => ((ds.take n).all isV = true → dW C hs K ns dst ⟨⟩ e R acc (.agg (ds.take n))) ∧ ((ds.take n).all isV = false → dW C hs K ns dst ⟨⟩ e R acc (.agx (ds.take n)))
      | false => 0 < n ∧ dW C hs K ns dst ⟨⟩ e R acc (ds.headD .any)
    | _ => False) := _root_.id rfl
@[simp] theorem opW_bld {zs parts v1} : opW C hs K ns dst (.bld zs parts) v1 e R acc = ((∀ p ∈ parts, isS (vd (look e) p.2.2) = true ∧ p.1 + p.2.1 ≤ zs.length ∧ match (generalizing := false) vd (look e) p.2.2 with
        | .agg ds => ds.length = p.2.1
        | .agx ds => ds.length = p.2.1
        | .any => False
        | .tpx _ => False
        | .ptx _ => False
        | .fnx _ _ => False
        | _ => p.2.1 = 1) ∧
      ((parts.all fun p => isV (vd (look e) p.2.2)) = true → dW C hs K ns dst ⟨⟩ e R acc (.agg (fillD zs (parts.map fun p => (p.1, p.2.1, vd (look e) p.2.2))))) ∧
      ((parts.all fun p => isV (vd (look e) p.2.2)) = false → dW C hs K ns dst ⟨⟩ e R acc (.agx (fillD zs (parts.map fun p => (p.1, p.2.1, aggOf (vd (look e) p.2.2))))))) := _root_.id rfl
@[simp] theorem opW_lens {x v1} : opW C hs K ns dst (.lens x) v1 e R acc = (match (generalizing := false) vd (look e) x with
    | .str s => dW C hs K ns dst ⟨⟩ e R acc (.int .i64 s.length)
    | _ => False) := _root_.id rfl
@[simp] theorem opW_mk {g xs v1} : opW C hs K ns dst (.mk g xs) v1 e R acc = ((∀ x ∈ xs, isP (vd (look e) x) = true) ∧ ((xs.all fun x => isV (vd (look e) x)) = true → dW C hs K ns dst ⟨⟩ e R acc (.fn g (xs.map (vd (look e))))) ∧ ((xs.all fun x => isV (vd (look e) x)) = false → dW C hs K ns dst ⟨⟩ e R acc (.fnx g (xs.map (vd (look e)))))) := _root_.id rfl
@[simp] theorem opW_slS {x lo hi v1} : opW C hs K ns dst (.slS x lo hi) v1 e R acc = (match (generalizing := false) vd (look e) x with
    | .str s => boundT (look e) hi s.length (fun h => boundT (look e) lo 0 (fun l => l ≤ h ∧ h ≤ s.length ∧ dW C hs K ns dst ⟨⟩ e R acc (.str ((s.take h).drop l))) ⟨⟩) ⟨⟩
    | _ => False) := _root_.id rfl
@[simp] theorem opW_mn {x y v1} : opW C hs K ns dst (.mn x y) v1 e R acc = (match (generalizing := false) vd (look e) x, vd (look e) y with
    | .int k a, .int k' b => k = k' ∧ dW C hs K ns dst ⟨⟩ e R acc (.int k (if b < a then b else a))
    | _, _ => False) := _root_.id rfl
@[simp] theorem opW_mx {x y v1} : opW C hs K ns dst (.mx x y) v1 e R acc = (match (generalizing := false) vd (look e) x, vd (look e) y with
    | .int k a, .int k' b => k = k' ∧ dW C hs K ns dst ⟨⟩ e R acc (.int k (if a < b then b else a))
    | _, _ => False) := _root_.id rfl
@[simp] theorem opW_add64 {x y c v1} : opW C hs K ns dst (.add64 x y c) v1 e R acc = (match (generalizing := false) vd (look e) x, vd (look e) y, vd (look e) c with
    | .int .u64 a, .int .u64 b, .int .u64 k => 0 ≤ a ∧ a < 18446744073709551616 ∧ 0 ≤ b ∧ b < 18446744073709551616 ∧ 0 ≤ k ∧ k ≤ 1 ∧
        dW C hs K ns dst ⟨⟩ e R acc (.tup [.int .u64 ((a + b + k) % 18446744073709551616), .int .u64 ((a + b + k) / 18446744073709551616)])
    | _, _, _ => False) := _root_.id rfl
@[simp] theorem opW_sub64 {x y c v1} : opW C hs K ns dst (.sub64 x y c) v1 e R acc = (match (generalizing := false) vd (look e) x, vd (look e) y, vd (look e) c with
    | .int .u64 a, .int .u64 b, .int .u64 k => 0 ≤ a ∧ a < 18446744073709551616 ∧ 0 ≤ b ∧ b < 18446744073709551616 ∧ 0 ≤ k ∧ k ≤ 1 ∧
        dW C hs K ns dst ⟨⟩ e R acc (.tup [.int .u64 ((a - b - k) % 18446744073709551616), .int .u64 (if a < b + k then 1 else 0)])
    | _, _, _ => False) := _root_.id rfl
@[simp] theorem opW_nilo {sz v1} : opW C hs K ns dst (.nilo sz) v1 e R acc = (match (generalizing := false) dst with
    | some t => 0 < sz ∧ doW C hs K ns ⟨⟩ e R acc [(t, .ref (.r (rt t 0)) 0 0), (rt t 0, .blk sz [])] [(rt t 0, true)]
    | none => False) := _root_.id rfl
@[simp] theorem opW_box {x t v1} : opW C hs K ns (some t) (.box [] x) v1 e R acc = absT (look e) (vd (look e) x) [] (fun cs bs => bs.contains (rt t 0) = false ∧ doW C hs K ns ⟨⟩ e R acc ((t, .adr (.r (rt t 0)) 0 0) :: (rt t 0, .blk cs.length [cs]) :: anys bs) [(rt t 0, true)]) ⟨⟩ := _root_.id rfl
@[simp] theorem opW_alc {zs v1} : opW C hs K ns dst (.alc zs) v1 e R acc = (match (generalizing := false) dst with
    | some t => doW C hs K ns ⟨⟩ e R acc [(t, .adr (.r (rt t 0)) 0 0), (rt t 0, .blk zs.length [zs])] [(rt t 0, true)]
    | none => False) := _root_.id rfl
@[simp] theorem opW_bls {sz len zs parts t v1} : opW C hs K ns (some t) (.bls sz len zs [] parts) v1 e R acc = partsT (look e) sz parts (List.replicate len zs) [] (fun es bs => noDupN bs = true ∧ bs.contains (rt t 0) = false ∧ doW C hs K ns ⟨⟩ e R acc ((t, .ref (.r (rt t 0)) 0 len) :: (rt t 0, .blk sz es) :: anys bs) [(rt t 0, true)]) ⟨⟩ := _root_.id rfl
@[simp] theorem opW_mks {sz by_ zs n c v1} : opW C hs K ns dst (.mks sz by_ zs n c) v1 e R acc = (match (generalizing := false) dst with
    | some t => match (generalizing := false) vd (look e) n, vd (look e) c with
      | .int _ n, .int _ c => 0 ≤ n ∧ n ≤ c ∧ c * by_ ≤ 140737488355328 ∧ doW C hs K ns ⟨⟩ e R acc [(t, .ref (.r (rt t 0)) 0 n.toNat), (rt t 0, .blk sz (List.replicate c.toNat zs))] [(rt t 0, true)]
      | _, _ => False
    | none => False) := _root_.id rfl
def stM (C : CC) (hs : Option (List Nat)) (K : Env → Prop) (ns : List NOper) (_ : Tag (hs, K, ns)) (e : Env) (R : List Nat) (acc : List (List Nat × List Nat)) (n : Nat) (v : D) (cs : List D) (bs : List Nat) (a : D) : Prop := match a with
  | .adr (.r b) i off => bs.contains b = false ∧ blkT (look e b) (fun sz es => rowT es[i]? (fun r => off + n ≤ r.length ∧ doW C hs K ns ⟨⟩ e R acc ((b, .blk sz (setC es i off n cs)) :: anys bs) (stK v [] b)) ⟨⟩) ⟨⟩
  | .adr (.n b i0 o0) i off => bs = [] ∧ (∀ c ∈ cs, isC1 c = true) ∧ blkT (look e b) (fun sz0 es0 => rowT es0[i0]? (fun row0 => ownT row0[o0]? (fun sz es => rowT es[i]? (fun r => off + n ≤ r.length ∧ doW C hs K ns ⟨⟩ e R acc [(b, .blk sz0 (setC es0 i0 o0 1 [.own sz (setC es i off n cs)]))] []) ⟨⟩) ⟨⟩) ⟨⟩) ⟨⟩
  | _ => False
@[simp] theorem stM_r {n v cs bs b i off} : stM C hs K ns u e R acc n v cs bs (.adr (.r b) i off) = (bs.contains b = false ∧ blkT (look e b) (fun sz es => rowT es[i]? (fun r => off + n ≤ r.length ∧ doW C hs K ns ⟨⟩ e R acc ((b, .blk sz (setC es i off n cs)) :: anys bs) (stK v [] b)) ⟨⟩) ⟨⟩) := _root_.id rfl
@[simp] theorem stM_n {n v cs bs b i0 o0 i off} : stM C hs K ns u e R acc n v cs bs (.adr (.n b i0 o0) i off) = (bs = [] ∧ (∀ c ∈ cs, isC1 c = true) ∧ blkT (look e b) (fun sz0 es0 => rowT es0[i0]? (fun row0 => ownT row0[o0]? (fun sz es => rowT es[i]? (fun r => off + n ≤ r.length ∧ doW C hs K ns ⟨⟩ e R acc [(b, .blk sz0 (setC es0 i0 o0 1 [.own sz (setC es i off n cs)]))] []) ⟨⟩) ⟨⟩) ⟨⟩) ⟨⟩) := _root_.id rfl
@[simp] theorem opW_st {n a v v1} : opW C hs K ns dst (.st n [] a v) v1 e R acc = (dst = none ∧ absT (look e) (vd (look e) v) [] (fun cs bs => cs.length = n ∧ stM C hs K ns ⟨⟩ e R acc n (vd (look e) v) cs bs (vd (look e) a)) ⟨⟩) := by
  show (dst = none ∧ absW (look e) (vd (look e) v) [] _) = (dst = none ∧ absW (look e) (vd (look e) v) [] _)
  congr 1
  congr 1
  funext cs bs
  cases vd (look e) a <;> try rfl
  rename_i p i off
  cases p with
  | r b =>
    simp only [stM, blkT, rowT_eq]
    cases look e b <;> rfl
  | n b i0 o0 =>
    simp only [stM, blkT, rowT_eq, ownT_eq]
    cases look e b <;> rfl
def appM (C : CC) (hs : Option (List Nat)) (K : Env → Prop) (ns : List NOper) (_ : Tag (hs, K, ns)) (e : Env) (R : List Nat) (acc : List (List Nat × List Nat)) (t sz by_ : Nat) (rowsY : List (List D)) (bs : List Nat) (x : D) : Prop := match x with
  | .nils => rowsY.length * by_ ≤ 140737488355328 ∧ doW C hs K ns ⟨⟩ e R acc ((t, .ref (.r (rt t 0)) 0 rowsY.length) :: (rt t 0, .blk sz rowsY) :: anys bs) [(rt t 0, true)]
  | .ref (.r c) k n => c ≠ rt t 0 ∧ bs.contains c = false ∧ blkT (look e c) (fun sz' es => sz' = sz ∧ k + n ≤ es.length ∧ (n + rowsY.length) * by_ ≤ 140737488355328 ∧
            doW C hs K ns ⟨⟩ e R acc ((t, .ref (.r (rt t 0)) 0 (n + rowsY.length)) :: (rt t 0, .blk sz ((es.drop k).take n ++ rowsY)) :: (c, .any) :: anys bs) [(rt t 0, true)]) ⟨⟩
  | .ref (.n c i o) k n => c ≠ rt t 0 ∧ bs.contains c = false ∧ blkT (look e c) (fun sz0 es0 => rowT es0[i]? (fun row0 => ownT row0[o]? (fun sz' es => sz' = sz ∧ k + n ≤ es.length ∧ (n + rowsY.length) * by_ ≤ 140737488355328 ∧
            doW C hs K ns ⟨⟩ e R acc ((t, .ref (.r (rt t 0)) 0 (n + rowsY.length)) :: (rt t 0, .blk sz ((es.drop k).take n ++ rowsY)) :: (c, .blk sz0 (setC es0 i o 1 [.any])) :: anys bs) [(rt t 0, true)]) ⟨⟩) ⟨⟩) ⟨⟩
  | _ => False
@[simp] theorem appM_nils {t sz by_ rowsY bs} : appM C hs K ns u e R acc t sz by_ rowsY bs .nils = (rowsY.length * by_ ≤ 140737488355328 ∧ doW C hs K ns ⟨⟩ e R acc ((t, .ref (.r (rt t 0)) 0 rowsY.length) :: (rt t 0, .blk sz rowsY) :: anys bs) [(rt t 0, true)]) := _root_.id rfl
@[simp] theorem appM_r {t sz by_ rowsY bs c k n} : appM C hs K ns u e R acc t sz by_ rowsY bs (.ref (.r c) k n) = (c ≠ rt t 0 ∧ bs.contains c = false ∧ blkT (look e c) (fun sz' es => sz' = sz ∧ k + n ≤ es.length ∧ (n + rowsY.length) * by_ ≤ 140737488355328 ∧
            doW C hs K ns ⟨⟩ e R acc ((t, .ref (.r (rt t 0)) 0 (n + rowsY.length)) :: (rt t 0, .blk sz ((es.drop k).take n ++ rowsY)) :: (c, .any) :: anys bs) [(rt t 0, true)]) ⟨⟩) := _root_.id rfl
@[simp] theorem appM_n {t sz by_ rowsY bs c i o k n} : appM C hs K ns u e R acc t sz by_ rowsY bs (.ref (.n c i o) k n) = (c ≠ rt t 0 ∧ bs.contains c = false ∧ blkT (look e c) (fun sz0 es0 => rowT es0[i]? (fun row0 => ownT row0[o]? (fun sz' es => sz' = sz ∧ k + n ≤ es.length ∧ (n + rowsY.length) * by_ ≤ 140737488355328 ∧
            doW C hs K ns ⟨⟩ e R acc ((t, .ref (.r (rt t 0)) 0 (n + rowsY.length)) :: (rt t 0, .blk sz ((es.drop k).take n ++ rowsY)) :: (c, .blk sz0 (setC es0 i o 1 [.any])) :: anys bs) [(rt t 0, true)]) ⟨⟩) ⟨⟩) ⟨⟩) := _root_.id rfl
@[simp] theorem opW_app {sz by_ mv x y t v1} : opW C hs K ns (some t) (.app sz by_ mv x y) v1 e R acc = rowsT (look e) mv (vd (look e) y) sz (fun rowsY bs => bs.contains (rt t 0) = false ∧ appM C hs K ns ⟨⟩ e R acc t sz by_ rowsY bs (vd (look e) x)) ⟨⟩ := by
  unfold opW rowsT
  simp only [resX]
  congr 1
  funext rowsY bs
  congr 1
  cases vd (look e) x <;> try rfl
  rename_i p k n
  cases p with
  | r c =>
    simp only [appM, blkT]
    cases look e c <;> rfl
  | n c i o =>
    simp only [appM, blkT, rowT_eq, ownT_eq]
    cases hl : look e c <;> try rfl
    rename_i sz0 es0
    refine congrArg _ (congrArg _ (propext ⟨?_, ?_⟩))
    · rintro ⟨row0, h1, es, h2, h3⟩
      exact ⟨row0, h1, sz, es, h2, rfl, h3⟩
    · rintro ⟨row0, h1, sz', es, h2, rfl, h3⟩
      exact ⟨row0, h1, es, h2, h3⟩
@[simp] theorem srtB_blk {g b n xs sz es} : srtB C g hs K ns dst u e R acc b n xs (.blk sz es) = (es.length = n ∧ (∀ e ∈ es, ∀ c ∈ e, isC1 c = true) ∧ (∀ x ∈ xs, dpOk (fbE (look e) b) (vd (fbE (look e) b) x)) ∧ callSW C g hs K ns dst ⟨⟩ e R acc b sz es (xs.map (dpv (fbE (look e) b))) (xs.all fun y => isV (vd (fbE (look e) b) y))) := _root_.id rfl
@[simp] theorem srtM_ref {g xs b k n} : srtM C g hs K ns dst u e R acc xs (.ref (.r b) k n) = (k = 0 ∧ srtB C g hs K ns dst ⟨⟩ e R acc b n xs (look e b)) := _root_.id rfl
@[simp] theorem opW_callS {g x xs v1} : opW C hs K ns dst (.callS g x xs) v1 e R acc = (srtM C g hs K ns dst ⟨⟩ e R acc xs (vd (look e) x)) := by
  cases dst <;> rfl
def argB (n : Nat) (d : D) : Prop := match d with
  | .blk _ es => es.length = n ∧ ∀ e ∈ es, ∀ c ∈ e, isF1 c = true
  | _ => False
def argE1 (f : Nat → D) (b : Nat) (d : D) : Prop := match d with
  | .ref (.r c) k n => k = 0 ∧ c ≠ b ∧ argB n (f c)
  | d => isV d = true
def ownB (d : D) : D := match d with
  | .blk sz es => .own sz es
  | _ => .any
def argV1 (f : Nat → D) (d : D) : D := match d with
  | .ref (.r c) _ _ => ownB (f c)
  | d => d
@[simp] theorem argB_blk {n sz es} : argB n (.blk sz es) = (es.length = n ∧ ∀ e ∈ es, ∀ c ∈ e, isF1 c = true) := _root_.id rfl
@[simp] theorem ownB_blk {sz es} : ownB (.blk sz es) = .own sz es := _root_.id rfl
@[simp] theorem argE_ap {f : Nat → D} {b : Nat} {x : Opd} : argE f b x = argE1 f b (vd f x) := by
  unfold argE argE1 argB
  cases vd f x <;> rfl
@[simp] theorem argV_ap {f : Nat → D} {x : Opd} : argV f x = argV1 f (vd f x) := by
  unfold argV argV1 ownB
  cases vd f x <;> rfl
@[simp] theorem argE1_ref {f : Nat → D} {b c k n} : argE1 f b (.ref (.r c) k n) = (k = 0 ∧ c ≠ b ∧ argB n (f c)) := _root_.id rfl
@[simp] theorem argV1_ref {f : Nat → D} {c k n} : argV1 f (.ref (.r c) k n) = ownB (f c) := _root_.id rfl
@[simp] theorem argE1_int {f : Nat → D} {b k n} : argE1 f b (.int k n) = True := by simp [argE1, isV]
@[simp] theorem argV1_int {f : Nat → D} {k n} : argV1 f (.int k n) = .int k n := _root_.id rfl
def eatW (C : CC) (g : Nat) (hs : Option (List Nat)) (K : Env → Prop) (ns : List NOper) (t : Nat) (_ : Tag (hs, K, ns)) (e : Env) (R : List Nat) (acc : List (List Nat × List Nat)) (sz : Nat) (W : List (List D)) (ds : List D) (q : Nat × D) : Prop :=
  ∃ es' : List (List D), (∀ e ∈ es', e.length = sz ∧ ∀ c ∈ e, isF1 c = true) ∧ C g (.own sz W :: ds) .any [.own sz es', .nils, .nils] ∧ doW C hs K ns ⟨⟩ e R acc [(t, .ref (.r (rt t 0)) 0 es'.length), (rt t 0, .blk sz es'), q] [(rt t 0, true)]
theorem eatW_of {g : Nat} {hs : Option (List Nat)} {K : Env → Prop} {ns : List NOper} {t : Nat} {u : Tag (hs, K, ns)} {e : Env} {R : List Nat} {acc : List (List Nat × List Nat)} {sz : Nat} {W es' : List (List D)} {ds : List D} {q : Nat × D} (h : C g (.own sz W :: ds) .any [.own sz es', .nils, .nils]) (hu : ∀ e ∈ es', e.length = sz ∧ ∀ c ∈ e, isF1 c = true)
    (hk : doW C hs K ns ⟨⟩ e R acc [(t, .ref (.r (rt t 0)) 0 es'.length), (rt t 0, .blk sz es'), q] [(rt t 0, true)]) : eatW C g hs K ns t u e R acc sz W ds q := ⟨es', hu, h, hk⟩
def eatM (C : CC) (g : Nat) (hs : Option (List Nat)) (K : Env → Prop) (ns : List NOper) (t : Nat) (_ : Tag (hs, K, ns)) (e : Env) (R : List Nat) (acc : List (List Nat × List Nat)) (xs : List Opd) (d : D) : Prop := match d with
  | .ref (.r b) k n => blkT (look e b) (fun sz es => k + n ≤ es.length ∧ b ≠ rt t 0 ∧ 0 < sz ∧ (∀ e ∈ (es.drop k).take n, ∀ c ∈ e, isF1 c = true) ∧ (∀ x ∈ xs, argE (look e) b x) ∧ eatW C g hs K ns t ⟨⟩ e R acc sz ((es.drop k).take n) (xs.map (argV (look e))) (b, .any)) ⟨⟩
  | .ref (.n b i o) k n => blkT (look e b) (fun sz0 es0 => rowT es0[i]? (fun row0 => ownT row0[o]? (fun sz es => k + n ≤ es.length ∧ b ≠ rt t 0 ∧ 0 < sz ∧ (∀ e ∈ (es.drop k).take n, ∀ c ∈ e, isF1 c = true) ∧ (∀ x ∈ xs, argE (look e) b x) ∧
      eatW C g hs K ns t ⟨⟩ e R acc sz ((es.drop k).take n) (xs.map (argV (look e))) (b, .blk sz0 (setC es0 i o 1 [.any]))) ⟨⟩) ⟨⟩) ⟨⟩
  | _ => False
@[simp] theorem eatM_r {g xs t b k n} : eatM C g hs K ns t u e R acc xs (.ref (.r b) k n) = blkT (look e b) (fun sz es => k + n ≤ es.length ∧ b ≠ rt t 0 ∧ 0 < sz ∧ (∀ e ∈ (es.drop k).take n, ∀ c ∈ e, isF1 c = true) ∧ (∀ x ∈ xs, argE (look e) b x) ∧ eatW C g hs K ns t ⟨⟩ e R acc sz ((es.drop k).take n) (xs.map (argV (look e))) (b, .any)) ⟨⟩ := _root_.id rfl
@[simp] theorem eatM_n {g xs t b i o k n} : eatM C g hs K ns t u e R acc xs (.ref (.n b i o) k n) = blkT (look e b) (fun sz0 es0 => rowT es0[i]? (fun row0 => ownT row0[o]? (fun sz es => k + n ≤ es.length ∧ b ≠ rt t 0 ∧ 0 < sz ∧ (∀ e ∈ (es.drop k).take n, ∀ c ∈ e, isF1 c = true) ∧ (∀ x ∈ xs, argE (look e) b x) ∧
      eatW C g hs K ns t ⟨⟩ e R acc sz ((es.drop k).take n) (xs.map (argV (look e))) (b, .blk sz0 (setC es0 i o 1 [.any]))) ⟨⟩) ⟨⟩) ⟨⟩ := _root_.id rfl
@[simp] theorem opW_callE {g x xs t v1} : opW C hs K ns (some t) (.callE g x xs) v1 e R acc = eatM C g hs K ns t ⟨⟩ e R acc xs (vd (look e) x) := by
  unfold opW
  simp only [resX]
  cases vd (look e) x <;> try rfl
  rename_i p k n
  cases p with
  | r b =>
    simp only [eatM, blkT, getP, Pa.root, deadP]
    cases look e b <;> rfl
  | n b i o =>
    simp only [eatM, blkT, rowT_eq, ownT_eq, getP, Pa.root, deadP]
    cases hl : look e b <;> try rfl
    rename_i sz0 es0
    simp only
    cases hi : es0[i]? with
    | none => simp
    | some row0 =>
      simp only [Option.getD_some, Option.some.injEq, exists_eq_left']
      cases ho : row0[o]? with
      | none => simp
      | some d =>
        cases d
        case own sz es => exact propext ⟨fun h => ⟨sz, es, rfl, h⟩, fun ⟨sz', es', h0, h⟩ => by cases h0; exact h⟩
        all_goals simp
def cellW (C : CC) (g : Nat) (hs : Option (List Nat)) (K : Env → Prop) (ns : List NOper) (dst : Option Nat) (_ : Tag (hs, K, ns)) (e : Env) (R : List Nat) (acc : List (List Nat × List Nat)) (b i o sz0 sz : Nat) (es0 es : List (List D)) (ds : List D) : Prop :=
  ∃ es' : List (List D), es'.length = es.length ∧ (∀ e ∈ es', e.length = sz ∧ ∀ c ∈ e, isC1 c = true) ∧ C g (.own sz es :: ds) .any [.own sz es', .nilp] ∧ doW C hs K ns ⟨⟩ e R acc (unitW dst ++ [(b, .blk sz0 (setC es0 i o 1 [.own sz es']))]) []
theorem cellW_of {g : Nat} {hs : Option (List Nat)} {K : Env → Prop} {ns : List NOper} {t : Nat} {u : Tag (hs, K, ns)} {e : Env} {R : List Nat} {acc : List (List Nat × List Nat)} {b i o sz0 sz : Nat} {es0 es es' : List (List D)} {ds : List D} (h : C g (.own sz es :: ds) .any [.own sz es', .nilp]) (hl : es'.length = es.length) (hu : ∀ e ∈ es', e.length = sz ∧ ∀ c ∈ e, isC1 c = true)
    (hk : doW C hs K ns ⟨⟩ e R acc [(t, .tup []), (b, .blk sz0 (setC es0 i o 1 [.own sz es']))] []) : cellW C g hs K ns (some t) u e R acc b i o sz0 sz es0 es ds := ⟨es', hl, hu, h, hk⟩
def cllM (C : CC) (g : Nat) (hs : Option (List Nat)) (K : Env → Prop) (ns : List NOper) (dst : Option Nat) (_ : Tag (hs, K, ns)) (e : Env) (R : List Nat) (acc : List (List Nat × List Nat)) (xs : List Opd) (d : D) : Prop := match d with
  | .ref (.n b i o) k n => k = 0 ∧ blkT (look e b) (fun sz0 es0 => rowT es0[i]? (fun row0 => ownT row0[o]? (fun sz es => es.length = n ∧ (∀ x ∈ xs, isV (vd (look e) x) = true) ∧ cellW C g hs K ns dst ⟨⟩ e R acc b i o sz0 sz es0 es (xs.map (vd (look e)))) ⟨⟩) ⟨⟩) ⟨⟩
  | _ => False
@[simp] theorem cllM_n {g xs b i o k n} : cllM C g hs K ns dst u e R acc xs (.ref (.n b i o) k n) = (k = 0 ∧ blkT (look e b) (fun sz0 es0 => rowT es0[i]? (fun row0 => ownT row0[o]? (fun sz es => es.length = n ∧ (∀ x ∈ xs, isV (vd (look e) x) = true) ∧ cellW C g hs K ns dst ⟨⟩ e R acc b i o sz0 sz es0 es (xs.map (vd (look e)))) ⟨⟩) ⟨⟩) ⟨⟩) := _root_.id rfl
@[simp] theorem opW_callN {g x xs v1} : opW C hs K ns dst (.callN g x xs) v1 e R acc = cllM C g hs K ns dst ⟨⟩ e R acc xs (vd (look e) x) := by
  unfold opW
  simp only [resX]
  cases vd (look e) x <;> try rfl
  rename_i p k n
  cases p with
  | r b => rfl
  | n b i o =>
    simp only [cllM, blkT, rowT_eq, ownT_eq]
    cases look e b <;> rfl
@[simp] theorem opW_callG {g xs v1} : opW C hs K ns dst (.callG g xs) v1 e R acc = ((∀ x ∈ xs, dpOk (look e) (vd (look e) x)) ∧ callGW C g hs K ns dst ⟨⟩ e R acc (xs.map (dpv (look e)))) := _root_.id rfl
@[simp] theorem opW_callF {g xs t v1} : opW C hs K ns (some t) (.callF g xs) v1 e R acc = ((∀ x ∈ xs, dpOk (look e) (vd (look e) x)) ∧ callFW C g hs K ns t ⟨⟩ e R acc (xs.map (dpv (look e)))) := _root_.id rfl
@[simp] theorem opW_call {g xs x0 v1} : opW C hs K ns dst (.call g xs x0) v1 e R acc = ((∀ x ∈ xs, dpOk (look e) (vd (look e) x)) ∧ callW C g hs K ns dst ⟨⟩ e R acc (xs.all fun x => isV (vd (look e) x)) (xs.map (dpv (look e)))) := _root_.id rfl
def asgM (C : CC) (hs : Option (List Nat)) (K : Env → Prop) (ns : List NOper) (t : Nat) (_ : Tag (hs, K, ns)) (e : Env) (R : List Nat) (acc : List (List Nat × List Nat)) (d : D) : Prop := match d with
  | .ref (.r c) k n => if c = rt t 0 then doW C hs K ns ⟨⟩ e R acc [(t, .ref (.r c) k n)] [] else match look e c with
    | .blk sz es => doW C hs K ns ⟨⟩ e R acc [(t, .ref (.r (rt t 0)) k n), (rt t 0, .blk sz es), (c, .any)] [(rt t 0, true)]
    | _ => False
  | d => isS d = true ∧ doW C hs K ns ⟨⟩ e R acc [(t, d)] []
@[simp] theorem opW_asg {t x v1} : opW C hs K ns (some t) (.asg x) v1 e R acc = asgM C hs K ns t ⟨⟩ e R acc (vd (look e) x) := _root_.id rfl
@[simp] theorem asgM_ref {t c k n} : asgM C hs K ns t u e R acc (.ref (.r c) k n) = (if c = rt t 0 then doW C hs K ns ⟨⟩ e R acc [(t, .ref (.r c) k n)] [] else match look e c with
    | .blk sz es => doW C hs K ns ⟨⟩ e R acc [(t, .ref (.r (rt t 0)) k n), (rt t 0, .blk sz es), (c, .any)] [(rt t 0, true)]
    | _ => False) := _root_.id rfl
@[simp] theorem asgM_refn {t b i o k n} : asgM C hs K ns t u e R acc (.ref (.n b i o) k n) = doW C hs K ns ⟨⟩ e R acc [(t, .ref (.n b i o) k n)] [] := by simp [asgM]
@[simp] theorem asgM_nils {t} : asgM C hs K ns t u e R acc .nils = doW C hs K ns ⟨⟩ e R acc [(t, .nils)] [] := by simp [asgM]
@[simp] theorem asgM_sl {t es} : asgM C hs K ns t u e R acc (.sl es) = doW C hs K ns ⟨⟩ e R acc [(t, .sl es)] [] := by simp [asgM]
@[simp] theorem asgM_slx {t b es} : asgM C hs K ns t u e R acc (slx b es) = doW C hs K ns ⟨⟩ e R acc [(t, slx b es)] [] := by
  rcases slx_cases b es with h | ⟨h, _⟩ <;> rw [h] <;> simp
@[simp] theorem asgM_any {t} : asgM C hs K ns t u e R acc .any = doW C hs K ns ⟨⟩ e R acc [(t, .any)] [] := by simp [asgM]
@[simp] theorem asgM_tup {t ds} : asgM C hs K ns t u e R acc (.tup ds) = doW C hs K ns ⟨⟩ e R acc [(t, .tup ds)] [] := by simp [asgM]
def frzM (C : CC) (hs : Option (List Nat)) (K : Env → Prop) (ns : List NOper) (t : Nat) (_ : Tag (hs, K, ns)) (e : Env) (R : List Nat) (acc : List (List Nat × List Nat)) (d : D) : Prop := match d with
  | .ref (.r c) k n => dpOk1 (look e) (.ref (.r c) k n) ∧ doW C hs K ns ⟨⟩ e R acc [(t, dp1 (look e) (.ref (.r c) k n)), (c, .any)] []
  | d => isS d = true ∧ doW C hs K ns ⟨⟩ e R acc [(t, d)] []
@[simp] theorem opW_frz {t x v1} : opW C hs K ns (some t) (.frz x) v1 e R acc = frzM C hs K ns t ⟨⟩ e R acc (vd (look e) x) := _root_.id rfl
@[simp] theorem frzM_ref {t c k n} : frzM C hs K ns t u e R acc (.ref (.r c) k n) = (dpOk1 (look e) (.ref (.r c) k n) ∧ doW C hs K ns ⟨⟩ e R acc [(t, dp1 (look e) (.ref (.r c) k n)), (c, .any)] []) := _root_.id rfl
@[simp] theorem frzM_nils {t} : frzM C hs K ns t u e R acc .nils = doW C hs K ns ⟨⟩ e R acc [(t, .nils)] [] := by simp [frzM]
@[simp] theorem frzM_sl {t es} : frzM C hs K ns t u e R acc (.sl es) = doW C hs K ns ⟨⟩ e R acc [(t, .sl es)] [] := by simp [frzM]
@[simp] theorem frzM_slx {t b es} : frzM C hs K ns t u e R acc (slx b es) = doW C hs K ns ⟨⟩ e R acc [(t, slx b es)] [] := by
  rcases slx_cases b es with h | ⟨h, _⟩ <;> rw [h] <;> simp
def slmB (C : CC) (hs : Option (List Nat)) (K : Env → Prop) (ns : List NOper) (t : Nat) (_ : Tag (hs, K, ns)) (e : Env) (R : List Nat) (acc : List (List Nat × List Nat)) (len sz c : Nat) (d : D) : Prop := match d with
  | .blk _ [row] => 0 < len ∧ 0 < sz ∧ row.length = len * sz ∧ (∀ d ∈ row, isC1 d = true) ∧ doW C hs K ns ⟨⟩ e R acc [(t, .ref (.r (rt t 0)) 0 len), (rt t 0, .blk sz (chunks sz len row)), (c, .any)] [(rt t 0, true)]
  | _ => False
@[simp] theorem slmB_blk {t len sz c sz0 row} : slmB C hs K ns t u e R acc len sz c (.blk sz0 [row]) = (0 < len ∧ 0 < sz ∧ row.length = len * sz ∧ (∀ d ∈ row, isC1 d = true) ∧ doW C hs K ns ⟨⟩ e R acc [(t, .ref (.r (rt t 0)) 0 len), (rt t 0, .blk sz (chunks sz len row)), (c, .any)] [(rt t 0, true)]) := _root_.id rfl
def slmM (C : CC) (hs : Option (List Nat)) (K : Env → Prop) (ns : List NOper) (t : Nat) (_ : Tag (hs, K, ns)) (e : Env) (R : List Nat) (acc : List (List Nat × List Nat)) (len sz : Nat) (d : D) : Prop := match d with
  | .adr (.r c) i off => i = 0 ∧ off = 0 ∧ c ≠ rt t 0 ∧ slmB C hs K ns t ⟨⟩ e R acc len sz c (look e c)
  | _ => False
@[simp] theorem slmM_adr {t len sz c i off} : slmM C hs K ns t u e R acc len sz (.adr (.r c) i off) = (i = 0 ∧ off = 0 ∧ c ≠ rt t 0 ∧ slmB C hs K ns t ⟨⟩ e R acc len sz c (look e c)) := _root_.id rfl
@[simp] theorem opW_slM {len sz x t v1} : opW C hs K ns (some t) (.slM len sz x) v1 e R acc = slmM C hs K ns t ⟨⟩ e R acc len sz (vd (look e) x) := _root_.id rfl
def boxM (C : CC) (hs : Option (List Nat)) (K : Env → Prop) (ns : List NOper) (dst : Option Nat) (_ : Tag (hs, K, ns)) (e : Env) (R : List Nat) (acc : List (List Nat × List Nat)) (d : D) : Prop := match d with
  | .agx ds => dW C hs K ns dst ⟨⟩ e R acc (.ptx ds)
  | .agg ds => dW C hs K ns dst ⟨⟩ e R acc (.ptr ds)
  | d => isC1 d = true ∧ dW C hs K ns dst ⟨⟩ e R acc (.ptr [d])
@[simp] theorem cellsP_agg {ds : List D} : cellsP (.agg ds) = ds := _root_.id rfl
@[simp] theorem cellsP_int {k n} : cellsP (.int k n) = [.int k n] := _root_.id rfl
@[simp] theorem cellsP_str {n} : cellsP (.str n) = [.str n] := _root_.id rfl
@[simp] theorem cellsP_bool {n} : cellsP (.bool n) = [.bool n] := _root_.id rfl
@[simp] theorem cellsP_sl {n} : cellsP (.sl n) = [.sl n] := _root_.id rfl
@[simp] theorem fillR_nil {f : Nat → D} {es} : fillR f [] es = es := _root_.id rfl
@[simp] theorem fillR_cons {f : Nat → D} {p ps es} : fillR f (p :: ps) es = fillR f ps (es.set p.1 (cellsP (vd f p.2))) := _root_.id rfl
@[simp] theorem opW_blsF {sz len zs parts v1} : opW C hs K ns dst (.blsF sz len zs parts) v1 e R acc = ((∀ p ∈ parts, p.1 < len ∧ (cellsP (vd (look e) p.2)).length = sz ∧ ∀ c ∈ cellsP (vd (look e) p.2), isC1 c = true) ∧ 0 < len ∧
      (∀ r ∈ fillR (look e) parts (List.replicate len zs), ∀ c ∈ r, isC1 c = true) ∧ dW C hs K ns dst ⟨⟩ e R acc (.sl (fillR (look e) parts (List.replicate len zs)))) := _root_.id rfl
@[simp] theorem opW_boxF {x v1} : opW C hs K ns dst (.boxF x) v1 e R acc = boxM C hs K ns dst ⟨⟩ e R acc (vd (look e) x) := _root_.id rfl
@[simp] theorem boxM_agx {ds} : boxM C hs K ns dst u e R acc (.agx ds) = dW C hs K ns dst ⟨⟩ e R acc (.ptx ds) := _root_.id rfl
@[simp] theorem boxM_agg {ds} : boxM C hs K ns dst u e R acc (.agg ds) = dW C hs K ns dst ⟨⟩ e R acc (.ptr ds) := _root_.id rfl
@[simp] theorem boxM_int {k n} : boxM C hs K ns dst u e R acc (.int k n) = dW C hs K ns dst ⟨⟩ e R acc (.ptr [.int k n]) := by simp [boxM]
@[simp] theorem boxM_bool {n} : boxM C hs K ns dst u e R acc (.bool n) = dW C hs K ns dst ⟨⟩ e R acc (.ptr [.bool n]) := by simp [boxM]
@[simp] theorem boxM_str {n} : boxM C hs K ns dst u e R acc (.str n) = dW C hs K ns dst ⟨⟩ e R acc (.ptr [.str n]) := by simp [boxM]
@[simp] theorem boxM_nils : boxM C hs K ns dst u e R acc .nils = dW C hs K ns dst ⟨⟩ e R acc (.ptr [.nils]) := by simp [boxM]
@[simp] theorem boxM_sl {es} : boxM C hs K ns dst u e R acc (.sl es) = dW C hs K ns dst ⟨⟩ e R acc (.ptr [.sl es]) := by simp [boxM]
@[simp] theorem boxM_slx {b es} : boxM C hs K ns dst u e R acc (slx b es) = dW C hs K ns dst ⟨⟩ e R acc (.ptr [slx b es]) := by
  rcases slx_cases b es with h | ⟨h, _⟩ <;> rw [h] <;> simp
@[simp] theorem boxM_ptr {es} : boxM C hs K ns dst u e R acc (.ptr es) = dW C hs K ns dst ⟨⟩ e R acc (.ptr [.ptr es]) := by simp [boxM]
@[simp] theorem boxM_fn {g es} : boxM C hs K ns dst u e R acc (.fn g es) = dW C hs K ns dst ⟨⟩ e R acc (.ptr [.fn g es]) := by simp [boxM]
@[simp] theorem opW_len {x v1} : opW C hs K ns dst (.len x) v1 e R acc = lenM (vd (look e) x) (fun n => dW C hs K ns dst ⟨⟩ e R acc (.int .i64 n)) ⟨⟩ := by
  show res (look e) _ (.len x) = _
  simp only [res, lenM]
  cases vd (look e) x <;> rfl
def iadM (C : CC) (hs : Option (List Nat)) (K : Env → Prop) (ns : List NOper) (dst : Option Nat) (_ : Tag (hs, K, ns)) (e : Env) (R : List Nat) (acc : List (List Nat × List Nat)) (sz : Nat) (x i : D) : Prop := match (generalizing := false) x, i with
    | .sl es, .int _ j => 0 ≤ j ∧ idxW C hs K ns dst ⟨⟩ e R acc sz es j.toNat
    | .ref p k n, .int _ j => 0 ≤ j ∧ j.toNat < n ∧ match (generalizing := false) getP (look e) p with
      | some (sz', _) => sz' = sz ∧ dW C hs K ns dst ⟨⟩ e R acc (.adr p (k + j.toNat) 0)
      | none => False
    | _, _ => False
@[simp] theorem opW_iadS {sz x i v1} : opW C hs K ns dst (.iadS sz x i) v1 e R acc = iadM C hs K ns dst ⟨⟩ e R acc sz (vd (look e) x) (vd (look e) i) := _root_.id rfl
@[simp] theorem iadM_sl {sz es k j} : iadM C hs K ns dst u e R acc sz (.sl es) (.int k j) = (0 ≤ j ∧ idxW C hs K ns dst ⟨⟩ e R acc sz es j.toNat) := _root_.id rfl
@[simp] theorem iadM_slx {sz b es k j} : iadM C hs K ns dst u e R acc sz (slx b es) (.int k j) = (0 ≤ j ∧ idxW C hs K ns dst ⟨⟩ e R acc sz es j.toNat) := by
  rcases slx_cases b es with h | ⟨h, rfl⟩
  · rw [h]; rfl
  · rw [h]; simp [iadM, idxW]
@[simp] theorem iadM_ref {sz p k n k' j} : iadM C hs K ns dst u e R acc sz (.ref p k n) (.int k' j) = (0 ≤ j ∧ j.toNat < n ∧ match (generalizing := false) getP (look e) p with
      | some (sz', _) => sz' = sz ∧ dW C hs K ns dst ⟨⟩ e R acc (.adr p (k + j.toNat) 0)
      | none => False) := _root_.id rfl
def slcM (C : CC) (hs : Option (List Nat)) (K : Env → Prop) (ns : List NOper) (dst : Option Nat) (_ : Tag (hs, K, ns)) (e : Env) (R : List Nat) (acc : List (List Nat × List Nat)) (sz : Nat) (x : D) (lo hi : Option Opd) : Prop := match (generalizing := false) x with
    | .sl es => (∀ e ∈ es, e.length = sz) ∧ boundT (look e) hi es.length (fun h => boundT (look e) lo 0 (fun l => l ≤ h ∧ h ≤ es.length ∧ dW C hs K ns dst ⟨⟩ e R acc (.sl ((es.take h).drop l))) ⟨⟩) ⟨⟩
    | .ref p k n => match (generalizing := false) getP (look e) p with
      | some (sz', _) => sz' = sz ∧ boundT (look e) hi n (fun h => boundT (look e) lo 0 (fun l => l ≤ h ∧ h ≤ n ∧ dW C hs K ns dst ⟨⟩ e R acc (.ref p (k + l) (h - l))) ⟨⟩) ⟨⟩
      | none => False
    | _ => False
@[simp] theorem opW_slc {sz x lo hi v1} : opW C hs K ns dst (.slc sz x lo hi) v1 e R acc = slcM C hs K ns dst ⟨⟩ e R acc sz (vd (look e) x) lo hi := _root_.id rfl
@[simp] theorem slcM_sl {sz es lo hi} : slcM C hs K ns dst u e R acc sz (.sl es) lo hi = ((∀ e ∈ es, e.length = sz) ∧ boundT (look e) hi es.length (fun h => boundT (look e) lo 0 (fun l => l ≤ h ∧ h ≤ es.length ∧ dW C hs K ns dst ⟨⟩ e R acc (.sl ((es.take h).drop l))) ⟨⟩) ⟨⟩) := _root_.id rfl
@[simp] theorem slcM_ref {sz p k n lo hi} : slcM C hs K ns dst u e R acc sz (.ref p k n) lo hi = (match (generalizing := false) getP (look e) p with
      | some (sz', _) => sz' = sz ∧ boundT (look e) hi n (fun h => boundT (look e) lo 0 (fun l => l ≤ h ∧ h ≤ n ∧ dW C hs K ns dst ⟨⟩ e R acc (.ref p (k + l) (h - l))) ⟨⟩) ⟨⟩
      | none => False) := _root_.id rfl
@[simp] theorem opW_callv {x xs v1} : opW C hs K ns dst (.callv x xs) v1 e R acc = (match (generalizing := false) vd (look e) x with
    | .fn g cs => (∀ x ∈ xs, dpOk (look e) (vd (look e) x)) ∧ callW C g hs K ns dst ⟨⟩ e R acc (xs.all fun x => isV (vd (look e) x)) (xs.map (dpv (look e)) ++ cs)
    | .fnx g cs => (∀ x ∈ xs, dpOk (look e) (vd (look e) x)) ∧ (∀ c ∈ cs, dpOk1 (look e) c) ∧ callW C g hs K ns dst ⟨⟩ e R acc false (xs.map (dpv (look e)) ++ cs.map (dp1 (look e)))
    | _ => False) := by
  simp only [opW, resX, callW, dstK, Bool.false_eq_true, or_false]
  cases vd (look e) x <;> rfl
def mpT (x : D) (K : Nat → Nat → List D → List D → Prop) (_ : Tag K) : Prop := match x with
  | .mp kt et ks vs => K kt et ks vs
  | _ => False
@[simp] theorem mpT_mp {kt et ks vs K u} : mpT (.mp kt et ks vs) K u = K kt et ks vs := _root_.id rfl
@[simp] theorem opW_mkm {kt et t v1} : opW C hs K ns (some t) (.mkm kt et) v1 e R acc = doW C hs K ns ⟨⟩ e R acc [(t, .mrf (rt t 0)), (rt t 0, .mp kt et [] [])] [(rt t 0, true)] := _root_.id rfl
def mlM (C : CC) (hs : Option (List Nat)) (K : Env → Prop) (ns : List NOper) (dst : Option Nat) (_ : Tag (hs, K, ns)) (e : Env) (R : List Nat) (acc : List (List Nat × List Nat)) (sh : KSh) (kt et : Nat) (ok : Bool) (z x m : D) : Prop := match m with
  | .mrf b => mpT (look e b) (fun kt' et' ks vs => kt' = kt ∧ et' = et ∧ keyOkD sh x ∧ match ok with
        | true => dW C hs K ns dst ⟨⟩ e R acc (.tup [(mpGet ks vs x).getD z, .bool (mpGet ks vs x).isSome])
        | false => dW C hs K ns dst ⟨⟩ e R acc ((mpGet ks vs x).getD z)) ⟨⟩
  | _ => False
@[simp] theorem mlM_mrf {sh kt et ok z x b} : mlM C hs K ns dst u e R acc sh kt et ok z x (.mrf b) = mpT (look e b) (fun kt' et' ks vs => kt' = kt ∧ et' = et ∧ keyOkD sh x ∧ match ok with
        | true => dW C hs K ns dst ⟨⟩ e R acc (.tup [(mpGet ks vs x).getD z, .bool (mpGet ks vs x).isSome])
        | false => dW C hs K ns dst ⟨⟩ e R acc ((mpGet ks vs x).getD z)) ⟨⟩ := _root_.id rfl
@[simp] theorem opW_mpl {sh kt et ok z m x v1} : opW C hs K ns dst (.mpl sh kt et ok z m x) v1 e R acc = mlM C hs K ns dst ⟨⟩ e R acc sh kt et ok z (vd (look e) x) (vd (look e) m) := by
  show res (look e) _ (.mpl sh kt et ok z m x) = _
  simp only [res, mlM]
  cases vd (look e) m <;> rfl
def muM (C : CC) (hs : Option (List Nat)) (K : Env → Prop) (ns : List NOper) (_ : Tag (hs, K, ns)) (e : Env) (R : List Nat) (acc : List (List Nat × List Nat)) (sh : KSh) (kt et : Nat) (z x v m : D) : Prop := match m with
  | .mrf b => mpT (look e b) (fun kt' et' ks vs => kt' = kt ∧ et' = et ∧ ks.length < maxLen ∧ keyOkD sh x ∧ elOkD z v ∧ doW C hs K ns ⟨⟩ e R acc [(b, .mp kt et (x :: ks) (v :: vs))] []) ⟨⟩
  | _ => False
@[simp] theorem muM_mrf {sh kt et z x v b} : muM C hs K ns u e R acc sh kt et z x v (.mrf b) = mpT (look e b) (fun kt' et' ks vs => kt' = kt ∧ et' = et ∧ ks.length < maxLen ∧ keyOkD sh x ∧ elOkD z v ∧ doW C hs K ns ⟨⟩ e R acc [(b, .mp kt et (x :: ks) (v :: vs))] []) ⟨⟩ := _root_.id rfl
@[simp] theorem opW_mpu {sh kt et z m x v v1} : opW C hs K ns dst (.mpu sh kt et z m x v) v1 e R acc = (dst = none ∧ muM C hs K ns ⟨⟩ e R acc sh kt et z (vd (look e) x) (vd (look e) v) (vd (look e) m)) := by
  show (dst = none ∧ _) = _
  congr 1
end
@[simp] theorem keyOkD_str {s} : keyOkD .str (.str s) = (s.length ≤ maxLen) := _root_.id rfl
@[simp] theorem keyOkD_bool {b} : keyOkD .bool (.bool b) = True := _root_.id rfl
@[simp] theorem keyOkD_int {q q' n} : keyOkD (.int q) (.int q' n) = (q' = q ∧ inKd q n) := _root_.id rfl
@[simp] theorem keyOkD_ints {q n ds} : keyOkD (.ints q n) (.agg ds) = (ds.length = n ∧ ∀ d ∈ ds, ∃ x, d = .int q x ∧ inKd q x) := _root_.id rfl
@[simp] theorem elOkD_str {s z} : elOkD (.str z) (.str s) = (s.length ≤ maxLen) := _root_.id rfl
@[simp] theorem elOkD_bool {b z} : elOkD (.bool z) (.bool b) = True := _root_.id rfl
@[simp] theorem elOkD_int {q q' n z} : elOkD (.int q z) (.int q' n) = (q' = q ∧ inKd q n) := _root_.id rfl
@[simp] theorem inKd_i64 {n : Int} : inKd .i64 n = (-9223372036854775808 ≤ n ∧ n ≤ 9223372036854775807) := by
  have e1 : IntKind.i64.min = -9223372036854775808 := rfl
  have e2 : IntKind.i64.max = 9223372036854775807 := rfl
  simp [inKd, Lit.wf, e1, e2]
attribute [simp] vd params retOk retOwn retNew flatP resD1 resP prune Weak isC fillD getP setP setC dpv anys stK mentP rt chk rdS rdR encR wrK mnR opsN ldN opdsOf opdSlots gSlot wOk Pa.root flatEq noDupN
end Go.Gv

namespace Go.Gv
def isLetter (c : Int) : Bool := (97 ≤ c && c ≤ 122) || (65 ≤ c && c ≤ 90)
def isDigit (c : Int) : Bool := 48 ≤ c && c ≤ 57
def isWordB (c : UInt8) : Bool := isLetter c.toNat || isDigit c.toNat || c.toNat == 95
def wordLen (s : List UInt8) : Nat := (s.takeWhile isWordB).length
def fits (n : Int) : Bool := -1125899906842624 ≤ n && n ≤ 1125899906842624
def isName (s : List UInt8) : Bool := s ≠ [] && s.length ≤ 20 && isLetter (s[0]!).toNat && wordLen s == s.length
theorem wordLen_le (s : List UInt8) : wordLen s ≤ s.length := by unfold wordLen; exact (List.takeWhile_prefix _).length_le
theorem tw_get {α : Type} (p : α → Bool) : ∀ (s : List α) (i : Nat) (h : i < s.length), i ≤ (s.takeWhile p).length → (p s[i] = true → i + 1 ≤ (s.takeWhile p).length) ∧ (p s[i] = false → i = (s.takeWhile p).length)
  | [], i, h, _ => by simp at h
  | x :: s, 0, h, _ => by
    constructor <;> intro h1 <;> simp at h1 <;> simp [h1]
  | x :: s, i + 1, h, h2 => by
    rw [List.takeWhile_cons] at h2 ⊢
    split at h2
    · rename_i hp
      simp only [hp, if_true, List.length_cons, List.getElem_cons_succ] at h2 ⊢
      have := tw_get p s i (by simpa using h) (by omega)
      exact ⟨fun e => by have := this.1 e; omega, fun e => by have := this.2 e; omega⟩
    · simp at h2
theorem wordLen_more {s : List UInt8} {i : Nat} (h : i < s.length) (hi : i ≤ wordLen s) : isWordB s[i] = true → i + 1 ≤ wordLen s := (tw_get isWordB s i h hi).1
theorem wordLen_stop {s : List UInt8} {i : Nat} (h : i < s.length) (hi : i ≤ wordLen s) : isWordB s[i] = false → i = wordLen s := (tw_get isWordB s i h hi).2
theorem wrap_i64 {n m : Int} (h : n = m) (h2 : -9223372036854775808 ≤ m ∧ m < 9223372036854775808) : IntKind.wrap .i64 n = m := by
  subst h
  have e1 : IntKind.i64.signed = true := rfl
  have e2 : (2 ^ (IntKind.i64.bits - 1) : Int) = 9223372036854775808 := rfl
  have e3 : (2 ^ IntKind.i64.bits : Int) = 18446744073709551616 := rfl
  unfold IntKind.wrap
  simp only [e1, e2, e3, Bool.true_and, decide_eq_true_eq]
  split <;> omega
set_option linter.unusedSimpArgs false
variable {C : CC} (hC : Closed prog C)
include hC
theorem fits_c (n : Int) : C 89 [.int .i64 n] (.bool (fits n)) [] := by
  refine start hC (nf := N89_table_fits) rfl rfl ?_
  simp [N89_table_fits, fits]
  refine brB_of (fun h => ?_) (fun h => ?_) <;> simp at h <;> simp [h] <;> omega
theorem slope_c (n l : Int) : C 60 [.int .i64 n, .int .i64 l] (.bool (0 ≤ n && n ≤ 4194304 && 1 ≤ l && l ≤ 16777216)) [] := by
  refine start hC (nf := N60_catalogue_slope) rfl rfl ?_
  simp [N60_catalogue_slope]
  repeat' (refine brB_of (fun h => ?_) (fun h => ?_) <;> simp at h <;> simp [h] <;> try omega)
theorem digit_c (c : Int) : C 88 [.int .u8 c] (.bool (isDigit c)) [] := by
  refine start hC (nf := N88_decimal_digit) rfl rfl ?_
  simp [N88_decimal_digit, isDigit]
  refine brB_of (fun h => ?_) (fun h => ?_) <;> simp at h <;> simp [h] <;> omega
theorem letter_c (c : Int) : C 70 [.int .u8 c] (.bool (isLetter c)) [] := by
  refine start hC (nf := N70_decimal_letter) rfl rfl ?_
  simp [N70_decimal_letter, isLetter]
  repeat' (refine brB_of (fun h => ?_) (fun h => ?_) <;> simp at h <;> simp [h] <;> try omega)
theorem word_c (s : List UInt8) (hs : s.length < 2 ^ 62) : C 71 [.str s] (.int .i64 (wordLen s)) [] := by
  refine start hC (nf := N71_decimal_word) rfl rfl ?_
  simp [N71_decimal_word]
  refine loop_of Nat (fun i => [(0, .str s), (3, .int .i64 i)]) (fun i => i ≤ wordLen s) (fun i => wordLen s - i) 0 (by simp) (by simp) ?_
  intro i hi
  have hle : wordLen s ≤ s.length := wordLen_le s
  by_cases hl : i < s.length
  · simp [hl]
    refine callW_of (letter_c hC _) (.inl rfl) ?_
    have hstep : isWordB s[i] = true → i + 1 ≤ wordLen s := wordLen_more hl hi
    have hstop : isWordB s[i] = false → i = wordLen s := wordLen_stop hl hi
    simp only [isWordB] at hstep hstop
    have hw : IntKind.wrap .i64 ((i : Int) + 1) = ((i + 1 : Nat) : Int) := wrap_i64 (by omega) (by omega)
    cases h1 : isLetter s[i].toNat with
    | true => 
      simp [h1, hw] at hstep ⊢
      exact ⟨i + 1, by omega, by omega, rfl⟩
    | false =>
      simp [h1, hl]
      refine callW_of (digit_c hC _) (.inl rfl) ?_
      cases h2 : isDigit s[i].toNat with
      | true =>
        simp [h1, h2, hw] at hstep ⊢
        exact ⟨i + 1, by omega, by omega, rfl⟩
      | false =>
        simp [hl]
        refine brB_of (fun h3 => ?_) (fun h3 => ?_) <;> simp at h3
        · simp [hw, hl]
          have := hstep (by simp [show s[i].toNat = 95 by omega])
          exact ⟨i + 1, this, by omega, rfl⟩
        · have h4 : ¬ s[i].toNat = 95 := by omega
          simp [h1, h2, h4] at hstop ⊢
          omega
  · simp [hl]
    have : i = wordLen s := by omega
    omega
theorem IsName_c (s : List UInt8) : C 58 [.str s] (.bool (isName s)) [] := by
  refine start hC (nf := N58_decimal_IsName) rfl rfl ?_
  simp [N58_decimal_IsName]
  refine brB_of (fun h => ?_) (fun h => ?_) <;> simp at h
  · have hp : 0 < s.length := List.length_pos_iff.2 h
    simp [h, hp]
    refine brB_of (fun h2 => ?_) (fun h2 => ?_) <;> simp at h2
    · simp [h2, hp]
      refine callW_of (letter_c hC _) (.inl rfl) ?_
      simp
      refine brB_of (fun h3 => ?_) (fun h3 => ?_)
      · simp [h3, h2]
        refine callW_of (word_c hC s (by omega)) (.inl rfl) ?_
        simp [isName, h, h3, show s.length ≤ 20 by omega, hp, Int.ofNat_inj]
        rw [Bool.eq_iff_iff]; simp
      · simp [isName, h, h3, hp]
    · simp [h2, isName]
      omega
  · subst h
    simp [isName]
end Go.Gv

set_option linter.unusedSimpArgs false
namespace Go.Gv
structure SlI where
  n : Bool
  l : List Int
  deriving Inhabited
def slI (x : SlI) : D := slx x.n (x.l.map fun n => [.int .i64 n])
def knD (k : Int × Int) : List D := [.int .i64 k.1, .int .i64 k.2]
structure Sec where
  name : List UInt8
  height : Int
  price : Int
  areaN : Bool
  area : List (Int × Int)
  convN : Bool
  conv : List (Int × Int)
  deriving Inhabited
def secC (s : Sec) : List D := [.str s.name, .int .i64 s.height, .int .i64 s.price, slx s.areaN (s.area.map knD), slx s.convN (s.conv.map knD)]
def idxD {α : Type} (p : α → Bool) (xs : List α) : Int := match xs.findIdx? p with
  | some i => i
  | none => -1
theorem idxD_step {α : Type} {p : α → Bool} {xs : List α} {i : Nat} (hj : ∀ (j : Nat) (h : j < xs.length), j < i → p xs[j] = false) (hi : i < xs.length) (h : p xs[i] = true) : idxD p xs = i := by
  have : xs.findIdx? p = some i := by
    rw [List.findIdx?_eq_some_iff_getElem]
    exact ⟨hi, h, fun j hji => by simp [hj j (by omega) hji]⟩
  simp [idxD, this]
theorem idxD_none {α : Type} {p : α → Bool} {xs : List α} (hj : ∀ (j : Nat) (h : j < xs.length), p xs[j] = false) : idxD p xs = -1 := by
  have : xs.findIdx? p = none := by
    rw [List.findIdx?_eq_none_iff]
    intro x hx
    obtain ⟨j, h, rfl⟩ := List.mem_iff_getElem.1 hx
    exact hj j h
  simp [idxD, this]
theorem idxD_any {α : Type} (p : α → Bool) (xs : List α) : decide (0 ≤ idxD p xs) = xs.any p := by
  unfold idxD
  split
  · rename_i i h
    rw [List.findIdx?_eq_some_iff_getElem] at h
    obtain ⟨h1, h2, _⟩ := h
    have : xs.any p = true := List.any_eq_true.2 ⟨_, List.getElem_mem h1, h2⟩
    simp [this]
  · rename_i h
    rw [List.findIdx?_eq_none_iff] at h
    have : xs.any p = false := by rw [List.any_eq_false]; intro x hx; simp [h x hx]
    simp [this]
variable {C : CC} (hC : Closed prog C)
include hC
theorem idxInt_c {b : Bool} {xs : List Int} {g : Nat} {cs : List D} (p : Int → Bool) (hs : xs.length < 2 ^ 62) (hp : ∀ x ∈ xs, C g (.int .i64 x :: cs) (.bool (p x)) []) : C 35 [slx b (xs.map fun x => [.int .i64 x]), .fn g cs] (.int .i64 (idxD p xs)) [] := by
  refine start hC (nf := N35_slices_IndexFunc__int_int) rfl rfl ?_
  simp [N35_slices_IndexFunc__int_int]
  refine loop_of Nat (fun i => [(0, slx b (xs.map fun x => [.int .i64 x])), (1, .fn g cs), (7, .int .i64 xs.length), (8, .int .i64 i)]) (fun i => i ≤ xs.length ∧ ∀ (j : Nat) (h : j < xs.length), j < i → p xs[j] = false) (fun i => xs.length - i) 0 (by simp) (by simp) ?_
  rintro i ⟨hi, hj⟩
  simp
  refine brB_of (fun h => ?_) (fun h => ?_) <;> simp [h] <;> simp at h
  · have hw : IntKind.wrap .i64 ((i : Int) + 1) = ((i + 1 : Nat) : Int) := wrap_i64 (by omega) (by omega)
    have hc := hp _ (List.getElem_mem h)
    simp [h, List.getElem_map] at hc ⊢
    refine callW_of hc (.inl rfl) ?_
    simp
    refine brB_of (fun h1 => ?_) (fun h1 => ?_) <;> simp [h1, hw]
    · rw [idxD_step hj h h1]
    · refine ⟨i + 1, ⟨by omega, fun j hl hjj => ?_⟩, by omega, rfl⟩
      rcases Nat.lt_succ_iff_lt_or_eq.1 hjj with h2 | rfl
      · exact hj j hl h2
      · exact h1
  · rw [idxD_none (fun j hl => hj j hl (by omega))]
theorem hasInt_c {b : Bool} {xs : List Int} {g : Nat} {cs : List D} (p : Int → Bool) (hs : xs.length < 2 ^ 62) (hp : ∀ x ∈ xs, C g (.int .i64 x :: cs) (.bool (p x)) []) : C 11 [slx b (xs.map fun x => [.int .i64 x]), .fn g cs] (.bool (xs.any p)) [] := by
  refine start hC (nf := N11_slices_ContainsFunc__int_int) rfl rfl ?_
  simp [N11_slices_ContainsFunc__int_int]
  refine callW_of (idxInt_c hC p hs hp) (.inl rfl) ?_
  simp [idxD_any]
theorem idxSec_c {b : Bool} {xs : List Sec} {g : Nat} {cs : List D} (p : Sec → Bool) (hs : xs.length < 2 ^ 62) (hp : ∀ x ∈ xs, C g (.agg (secC x) :: cs) (.bool (p x)) []) : C 52 [slx b (xs.map fun x => secC x), .fn g cs] (.int .i64 (idxD p xs)) [] := by
  refine start hC (nf := N52_slices_IndexFunc__api_Section_api_Section) rfl rfl ?_
  simp [N52_slices_IndexFunc__api_Section_api_Section]
  refine loop_of Nat (fun i => [(0, slx b (xs.map fun x => secC x)), (1, .fn g cs), (7, .int .i64 xs.length), (8, .int .i64 i)]) (fun i => i ≤ xs.length ∧ ∀ (j : Nat) (h : j < xs.length), j < i → p xs[j] = false) (fun i => xs.length - i) 0 (by simp) (by simp) ?_
  rintro i ⟨hi, hj⟩
  simp
  refine brB_of (fun h => ?_) (fun h => ?_) <;> simp [h] <;> simp at h
  · have hw : IntKind.wrap .i64 ((i : Int) + 1) = ((i + 1 : Nat) : Int) := wrap_i64 (by omega) (by omega)
    have hc := hp _ (List.getElem_mem h)
    simp [h, secC] at hc ⊢
    refine callW_of hc (.inl rfl) ?_
    simp
    refine brB_of (fun h1 => ?_) (fun h1 => ?_) <;> simp [h1, hw]
    · rw [idxD_step hj h h1]
    · refine ⟨i + 1, ⟨by omega, fun j hl hjj => ?_⟩, by omega, rfl⟩
      rcases Nat.lt_succ_iff_lt_or_eq.1 hjj with h2 | rfl
      · exact hj j hl h2
      · exact h1
  · rw [idxD_none (fun j hl => hj j hl (by omega))]
theorem hasSec_c {b : Bool} {xs : List Sec} {g : Nat} {cs : List D} (p : Sec → Bool) (hs : xs.length < 2 ^ 62) (hp : ∀ x ∈ xs, C g (.agg (secC x) :: cs) (.bool (p x)) []) : C 45 [slx b (xs.map fun x => secC x), .fn g cs] (.bool (xs.any p)) [] := by
  refine start hC (nf := N45_slices_ContainsFunc__api_Section_api_Section) rfl rfl ?_
  simp [N45_slices_ContainsFunc__api_Section_api_Section]
  refine callW_of (idxSec_c hC p hs hp) (.inl rfl) ?_
  simp [idxD_any]
end Go.Gv

set_option linter.unusedSimpArgs false
namespace Go.Gv
abbrev Edg := Nat × Nat
def edK (e : Edg) : List D := knD ((e.1 : Int), (e.2 : Int))
def edI (e : Edg) : Int × Int := ((e.1 : Int), (e.2 : Int))
theorem edK_map (es : List Edg) : es.map edK = (es.map edI).map knD := by simp [edK, edI]
def intL (l : List Nat) : List (List D) := l.map fun k : Nat => [.int .i64 (k : Int)]
def inG (n : Nat) (es : List Edg) : Prop := ∀ e ∈ es, e.1 < n ∧ e.2 < n
def nxt (n : Nat) (es : List Edg) (i : Nat) : List Nat := (List.range n).filter fun k => es.contains (i, k)
theorem mem_nxt {n : Nat} {es : List Edg} {i k : Nat} : k ∈ nxt n es i ↔ k < n ∧ (i, k) ∈ es := by simp [nxt]
theorem nxt_nodup (n : Nat) (es : List Edg) (i : Nat) : (nxt n es i).Nodup := List.Pairwise.filter _ List.nodup_range
theorem nxt_len (n : Nat) (es : List Edg) (i : Nat) : (nxt n es i).length ≤ n := by
  have := List.length_filter_le (fun k => es.contains (i, k)) (List.range n)
  simpa [nxt] using this
theorem set_rm {α : Type} {n k : Nat} {f : Nat → α} (x : α) : ((List.range n).map f).set k x = (List.range n).map fun v => if v = k then x else f v := by
  apply List.ext_getElem
  · simp
  · intro i h1 h2
    simp only [List.getElem_set, List.getElem_map, List.getElem_range]
    by_cases e : k = i
    · rw [if_pos e, if_pos e.symm]
    · rw [if_neg e, if_neg (Ne.symm e)]
def tgs (es : List Edg) (i : Nat) : List Nat := (es.filter fun e => e.1 == i).map (·.2)
theorem mem_tgs {es : List Edg} {i k : Nat} : k ∈ tgs es i ↔ (i, k) ∈ es := by
  unfold tgs
  simp only [List.mem_map, List.mem_filter, beq_iff_eq]
  constructor
  · rintro ⟨⟨a, b⟩, ⟨h1, h2⟩, h3⟩
    simp only at h2 h3
    subst h2 h3
    exact h1
  · intro h
    exact ⟨(i, k), ⟨h, rfl⟩, rfl⟩
theorem tgs_take {es : List Edg} {j : Nat} (hj : j < es.length) (v : Nat) : tgs (es.take (j + 1)) v = tgs (es.take j) v ++ (if es[j].1 = v then [es[j].2] else []) := by
  unfold tgs
  rw [List.take_succ_eq_append_getElem hj, List.filter_append, List.map_append]
  congr 1
  by_cases h : es[j].1 = v <;> simp [h]
theorem tgs_len (es : List Edg) (i : Nat) : (tgs es i).length ≤ es.length := by
  unfold tgs
  rw [List.length_map]
  exact List.length_filter_le _ _
def prOk (es : List Edg) (out : List Nat) (v : Nat) : Bool := es.all fun e => !(e.2 == v) || out.contains e.1
theorem prOk_iff {es : List Edg} {out : List Nat} {v : Nat} : prOk es out v = true ↔ ∀ u, (u, v) ∈ es → u ∈ out := by
  unfold prOk
  simp only [List.all_eq_true, Bool.or_eq_true, Bool.not_eq_true', beq_eq_false_iff_ne, List.contains_iff_mem]
  constructor
  · intro h u hu
    rcases h _ hu with h | h
    · exact absurd rfl h
    · exact h
  · rintro h ⟨a, b⟩ he
    by_cases e : b = v
    · subst e; exact .inr (h a he)
    · exact .inl e
def rdyL (n : Nat) (es : List Edg) (out : List Nat) : List Nat := (List.range n).filter fun v => !out.contains v && prOk es out v
theorem mem_rdyL {n : Nat} {es : List Edg} {out : List Nat} {v : Nat} : v ∈ rdyL n es out ↔ v < n ∧ v ∉ out ∧ ∀ u, (u, v) ∈ es → u ∈ out := by
  simp only [rdyL, List.mem_filter, List.mem_range, Bool.and_eq_true, Bool.not_eq_true', ← prOk_iff]
  simp
def stepO (n : Nat) (es : List Edg) (out : List Nat) : List Nat := match rdyL n es out with
  | [] => out
  | v :: _ => out ++ [v]
def ordN (n : Nat) (es : List Edg) : Nat → List Nat
  | 0 => []
  | m + 1 => stepO n es (ordN n es m)
def ordF (n : Nat) (es : List Edg) : List Nat := ordN n es n
def cntW (n : Nat) (es : List Edg) (out : List Nat) (k : Nat) : Nat := ((List.range n).filter fun u => es.contains (u, k) && !out.contains u).length
def cntU (es : List Edg) (i k : Nat) : Nat := ((List.range i).filter fun u => es.contains (u, k)).length
theorem cntU_all (n : Nat) (es : List Edg) (k : Nat) : cntU es n k = cntW n es [] k := by
  unfold cntU cntW
  congr 1
  apply List.filter_congr
  simp
theorem cntU_succ (es : List Edg) (i k : Nat) : cntU es (i + 1) k = cntU es i k + (if (i, k) ∈ es then 1 else 0) := by
  unfold cntU
  rw [List.range_succ, List.filter_append, List.length_append]
  by_cases h : (i, k) ∈ es <;> simp [h]
theorem cntU_le (es : List Edg) (i k : Nat) : cntU es i k ≤ i := by
  have := List.length_filter_le (fun u => es.contains (u, k)) (List.range i)
  simpa [cntU] using this
theorem cntW_zero {n : Nat} {es : List Edg} (hg : inG n es) {out : List Nat} {k : Nat} : cntW n es out k = 0 ↔ prOk es out k = true := by
  rw [prOk_iff]
  unfold cntW
  rw [List.length_eq_zero_iff, List.filter_eq_nil_iff]
  constructor
  · intro h u hu
    have := h u (by simpa using (hg _ hu).1)
    simp at this
    exact this hu
  · intro h u hu
    simp
    exact fun he => h u he
theorem filter_len_split {α : Type} (l : List α) (p q : α → Bool) : (l.filter p).length = (l.filter fun a => p a && q a).length + (l.filter fun a => p a && !q a).length := by
  induction l with
  | nil => rfl
  | cons a l ih =>
    simp only [List.filter_cons]
    cases p a <;> cases q a <;> simp <;> omega
theorem cntW_step {n : Nat} {es : List Edg} {out : List Nat} {i : Nat} (hi : i < n) (ho : i ∉ out) (k : Nat) : cntW n es out k = cntW n es (out ++ [i]) k + (if (i, k) ∈ es then 1 else 0) := by
  unfold cntW
  rw [filter_len_split (List.range n) (fun u => es.contains (u, k) && !out.contains u) (fun u => !(u == i))]
  congr 1
  · congr 1
    apply List.filter_congr
    intro u _
    rw [Bool.eq_iff_iff]
    simp [and_assoc]
  · have e : (List.range n).filter (fun a => (es.contains (a, k) && !out.contains a) && !!(a == i)) = if (i, k) ∈ es then [i] else [] := by
      have h1 : (List.range n).filter (fun a => (es.contains (a, k) && !out.contains a) && !!(a == i)) = ((List.range n).filter (fun a => a == i)).filter fun a => es.contains (a, k) && !out.contains a := by
        rw [List.filter_filter]
        apply List.filter_congr
        intro u _
        simp
      have h2 : (List.range n).filter (fun a => a == i) = [i] := by
        have : (List.range n).filter (fun a => a == i) = List.replicate ((List.range n).count i) i := List.filter_beq i
        rw [this, List.nodup_range.count, if_pos (by simpa using hi)]
        rfl
      rw [h1, h2]
      by_cases h : (i, k) ∈ es <;> simp [h, ho]
    rw [e]
    split <;> rfl
end Go.Gv

set_option linter.unusedSimpArgs false
namespace Go.Gv
structure SlC (C : CC) : Prop where
  sort : ∀ zs : List Int, zs.length < 2 ^ 40 → C 366 [.own 1 (zs.map fun n => [.int .i64 n])] .any [.own 1 ((zs.mergeSort fun x y => decide (x ≤ y)).map fun n => [.int .i64 n]), .nilp]
  compact : ∀ zs : List Int, zs.length < 2 ^ 40 → C 523 [.own 1 (zs.map fun n => [.int .i64 n])] .any [.own 1 ((Lib.compact zs).map fun n => [.int .i64 n]), .nils, .nils]
  insert : ∀ (zs : List Int) (i : Nat) (x : Int), i ≤ zs.length → zs.length < 2 ^ 40 → C 519 [.own 1 (zs.map fun n => [.int .i64 n]), .int .i64 i, .own 1 [[.int .i64 x]]] .any [.own 1 ((zs.take i ++ x :: zs.drop i).map fun n => [.int .i64 n]), .nils, .nils]
theorem strict_ext : ∀ {l l' : List Int}, l.Pairwise (· < ·) → l'.Pairwise (· < ·) → (∀ x, x ∈ l ↔ x ∈ l') → l = l'
  | [], [], _, _, _ => rfl
  | [], b :: _, _, _, h => by simpa using (h b).2 (by simp)
  | a :: _, [], _, _, h => by simpa using (h a).1 (by simp)
  | a :: l, b :: l', h1, h2, h => by
    rw [List.pairwise_cons] at h1 h2
    have e : a = b := by
      have x1 := (h a).1 (by simp)
      have x2 := (h b).2 (by simp)
      simp only [List.mem_cons] at x1 x2
      rcases x1 with x1 | x1
      · exact x1
      · rcases x2 with x2 | x2
        · exact x2.symm
        · have := h2.1 a x1; have := h1.1 b x2; omega
    subst e
    congr 1
    refine strict_ext h1.2 h2.2 fun x => ?_
    have := h x
    simp only [List.mem_cons] at this
    constructor
    · intro hx
      have h3 := h1.1 x hx
      rcases this.1 (.inr hx) with h4 | h4
      · omega
      · exact h4
    · intro hx
      have h3 := h2.1 x hx
      rcases this.2 (.inr hx) with h4 | h4
      · omega
      · exact h4
theorem compact_spec {d : Array Int} (hs : ∀ j, 0 < j → j < d.size → d[j - 1]! ≤ d[j]!) : ∀ m, m ≤ d.size → (Lib.compactUpTo d m).Pairwise (· < ·) ∧ (∀ x, x ∈ Lib.compactUpTo d m ↔ ∃ j, j < m ∧ d[j]! = x) ∧ ∀ x ∈ Lib.compactUpTo d m, x ≤ d[m - 1]!
  | 0, _ => by simp [Lib.compactUpTo]
  | m + 1, hm => by
    obtain ⟨h1, h2, h3⟩ := compact_spec hs m (by omega)
    rw [Lib.compactUpTo_succ]
    by_cases hk : Lib.keeps d m = true
    · rw [if_pos hk]
      have hlt : ∀ x ∈ Lib.compactUpTo d m, x < d[m]! := fun x hx => by
        have h4 := h3 x hx
        simp only [Lib.keeps, decide_eq_true_eq] at hk
        rcases hk with rfl | hk
        · obtain ⟨j, hj, _⟩ := (h2 x).1 hx; omega
        · rcases Nat.eq_zero_or_pos m with h0 | h0
          · subst h0; obtain ⟨j, hj, _⟩ := (h2 x).1 hx; omega
          · have := hs m h0 (by omega); omega
      refine ⟨List.pairwise_append.2 ⟨h1, by simp, fun a ha b hb => by simp at hb; subst hb; exact hlt a ha⟩, fun x => ?_, fun x hx => ?_⟩
      · simp only [List.mem_append, List.mem_singleton, h2]
        constructor
        · rintro (⟨j, hj, rfl⟩ | rfl)
          · exact ⟨j, by omega, rfl⟩
          · exact ⟨m, by omega, rfl⟩
        · rintro ⟨j, hj, rfl⟩
          by_cases e : j = m
          · exact .inr (by rw [e])
          · exact .inl ⟨j, by omega, rfl⟩
      · simp only [List.mem_append, List.mem_singleton] at hx
        rcases hx with hx | hx
        · exact Int.le_of_lt (hlt x hx)
        · rw [hx]; exact Int.le_refl _
    · rw [if_neg hk, List.append_nil]
      have hm0 : 0 < m := by
        rcases Nat.eq_zero_or_pos m with h | h
        · subst h; exact absurd (Lib.keeps_lt_one d 0 (by omega)) hk
        · exact h
      have he : d[m]! = d[m - 1]! := by
        apply Classical.byContradiction
        intro h
        exact hk (Lib.keeps_pos h)
      refine ⟨h1, fun x => ?_, fun x hx => ?_⟩
      · rw [h2]
        constructor
        · rintro ⟨j, hj, rfl⟩; exact ⟨j, by omega, rfl⟩
        · rintro ⟨j, hj, rfl⟩
          by_cases e : j = m
          · subst e; exact ⟨j - 1, by omega, he.symm⟩
          · exact ⟨j, by omega, rfl⟩
      · have := h3 x hx
        simp only [Nat.add_sub_cancel, he]
        exact this
theorem compact_sort {n : Nat} {es : List Edg} (hg : inG n es) (i : Nat) : Lib.compact (((tgs es i).map fun k : Nat => (k : Int)).mergeSort fun x y => decide (x ≤ y)) = (nxt n es i).map fun k : Nat => (k : Int) := by
  obtain ⟨zs, hz⟩ : ∃ zs, zs = ((tgs es i).map fun k : Nat => (k : Int)).mergeSort fun x y => decide (x ≤ y) := ⟨_, rfl⟩
  rw [← hz]
  have hp : zs.Pairwise (· ≤ ·) := by
    have h := List.pairwise_mergeSort (le := fun x y : Int => decide (x ≤ y)) (fun a b c h1 h2 => by simp at *; omega) (fun a b => by simp; omega) ((tgs es i).map fun k : Nat => (k : Int))
    rw [← hz] at h
    exact h.imp fun h => by simpa using h
  have hm : ∀ x, x ∈ zs ↔ ∃ k : Nat, (i, k) ∈ es ∧ (k : Int) = x := fun x => by
    rw [hz, List.mem_mergeSort, List.mem_map]
    simp only [mem_tgs]
  have hs : ∀ j, 0 < j → j < zs.toArray.size → zs.toArray[j - 1]! ≤ zs.toArray[j]! := fun j h1 h2 => by
    have h3 : j < zs.length := by simpa using h2
    rw [getElem!_pos zs.toArray (j - 1) (by simpa using (by omega : j - 1 < zs.length)), getElem!_pos zs.toArray j h2]
    exact List.pairwise_iff_getElem.1 hp (j - 1) j (by omega) h3 (by omega)
  obtain ⟨h1, h2, _⟩ := compact_spec hs zs.length (by simp)
  refine strict_ext h1 ?_ fun x => ?_
  · rw [List.pairwise_map]
    have : (nxt n es i).Pairwise (· < ·) := List.Pairwise.filter _ List.pairwise_lt_range
    exact this.imp fun h => by omega
  · unfold Lib.compact
    rw [h2, List.mem_map]
    constructor
    · rintro ⟨j, hj, rfl⟩
      rw [getElem!_pos zs.toArray j (by simpa using hj)]
      obtain ⟨k, k1, k2⟩ := (hm _).1 (List.getElem_mem (l := zs) hj)
      exact ⟨k, mem_nxt.2 ⟨(hg _ k1).2, k1⟩, by simpa using k2⟩
    · rintro ⟨k, hk, rfl⟩
      obtain ⟨j, hj, e⟩ := List.mem_iff_getElem.1 ((hm k).2 ⟨k, (mem_nxt.1 hk).2, rfl⟩)
      exact ⟨j, hj, by rw [getElem!_pos zs.toArray j (by simpa using hj)]; simpa using e⟩
variable {C : CC} (hC : Closed prog C)
include hC
theorem is_c (n i : Int) : C 516 [.int .i64 n, .int .i64 i] (.bool (decide (0 ≤ i) && decide (i < n))) [] := by
  refine start hC (nf := N516_digraph_is) rfl rfl ?_
  simp [N516_digraph_is]
  refine brB_of (fun h => ?_) (fun h => ?_) <;> simp at h <;> simp [h] <;> omega
theorem idxEd_c {b : Bool} {xs : List (Int × Int)} {g : Nat} {cs : List D} (p : (Int × Int) → Bool) (hs : xs.length < 2 ^ 62) (hp : ∀ x ∈ xs, C g (.agg (knD x) :: cs) (.bool (p x)) []) : C 522 [slx b (xs.map fun x => knD x), .fn g cs] (.int .i64 (idxD p xs)) [] := by
  refine start hC (nf := N522_slices_IndexFunc___2int__2int) rfl rfl ?_
  simp [N522_slices_IndexFunc___2int__2int]
  refine loop_of Nat (fun i => [(0, slx b (xs.map fun x => knD x)), (1, .fn g cs), (7, .int .i64 xs.length), (8, .int .i64 i)]) (fun i => i ≤ xs.length ∧ ∀ (j : Nat) (h : j < xs.length), j < i → p xs[j] = false) (fun i => xs.length - i) 0 (by simp) (by simp) ?_
  rintro i ⟨hi, hj⟩
  simp
  refine brB_of (fun h => ?_) (fun h => ?_) <;> simp [h] <;> simp at h
  · have hw : IntKind.wrap .i64 ((i : Int) + 1) = ((i + 1 : Nat) : Int) := wrap_i64 (by omega) (by omega)
    have hc := hp _ (List.getElem_mem h)
    simp [h, knD] at hc ⊢
    refine callW_of hc (.inl rfl) ?_
    simp
    refine brB_of (fun h1 => ?_) (fun h1 => ?_) <;> simp [h1, hw]
    · rw [idxD_step hj h h1]
    · refine ⟨i + 1, ⟨by omega, fun j hl hjj => ?_⟩, by omega, rfl⟩
      rcases Nat.lt_succ_iff_lt_or_eq.1 hjj with h2 | rfl
      · exact hj j hl h2
      · exact h1
  · rw [idxD_none (fun j hl => hj j hl (by omega))]
theorem hasEd_c {b : Bool} {xs : List (Int × Int)} {g : Nat} {cs : List D} (p : (Int × Int) → Bool) (hs : xs.length < 2 ^ 62) (hp : ∀ x ∈ xs, C g (.agg (knD x) :: cs) (.bool (p x)) []) : C 514 [slx b (xs.map fun x => knD x), .fn g cs] (.bool (xs.any p)) [] := by
  refine start hC (nf := N514_slices_ContainsFunc___2int__2int) rfl rfl ?_
  simp [N514_slices_ContainsFunc___2int__2int]
  refine callW_of (idxEd_c hC p hs hp) (.inl rfl) ?_
  simp [idxD_any]
def edBad (n : Int) (e : Int × Int) : Bool := !((decide (0 ≤ e.1) && decide (e.1 < n)) && (decide (0 ≤ e.2) && decide (e.2 < n)))
theorem edBad_c (n : Int) (e : Int × Int) : C 515 [.agg (knD e), .ptr [.int .i64 n]] (.bool (edBad n e)) [] := by
  refine start hC (nf := N515_digraph_Valid_1) rfl rfl ?_
  simp [N515_digraph_Valid_1, knD]
  refine callW_of (is_c hC n e.1) (.inl rfl) ?_
  unfold edBad
  cases h : (decide (0 ≤ e.1) && decide (e.1 < n))
  · simp
  · simp
    refine callW_of (is_c hC n e.2) (.inl rfl) ?_
    simp
def gOk (n : Int) (es : List (Int × Int)) : Bool := decide (0 ≤ n) && decide (n ≤ 300) && decide (es.length ≤ 1000) && !es.any (edBad n)
theorem gValid_c (b : Bool) (n : Int) (es : List (Int × Int)) (hl : es.length < 2 ^ 62) : C 503 [.int .i64 n, slx b (es.map knD)] (.bool (gOk n es)) [] := by
  have k1 := hasEd_c hC (b := b) (xs := es) (g := 515) (cs := [.ptr [.int .i64 n]]) (edBad n) hl (fun x _ => edBad_c hC n x)
  refine start hC (nf := N503_digraph_Valid) rfl rfl ?_
  simp [N503_digraph_Valid]
  by_cases h1 : n < 0
  · simp [h1, gOk, show ¬ 0 ≤ n by omega]
  by_cases h2 : 300 < n
  · simp [h1, h2, gOk, show ¬ n ≤ 300 by omega]
  by_cases h3 : (1000 : Int) < es.length
  · simp [h1, h2, h3, gOk, show ¬ es.length ≤ 1000 by omega]
  simp [h1, h2, h3]
  refine callW_of k1 (.inl rfl) ?_
  simp [gOk, show 0 ≤ n by omega, show n ≤ 300 by omega, show es.length ≤ 1000 by omega]
theorem gOk_of {n : Nat} {es : List Edg} (hn : n ≤ 300) (he : es.length ≤ 1000) (hg : inG n es) : gOk n (es.map edI) = true := by
  unfold gOk
  simp only [Bool.and_eq_true, decide_eq_true_eq, List.length_map, Bool.not_eq_true', List.any_eq_false, List.mem_map]
  refine ⟨⟨⟨by omega, by omega⟩, he⟩, ?_⟩
  rintro x ⟨e, h1, rfl⟩
  obtain ⟨h2, h3⟩ := hg e h1
  simp only [edBad, edI, Bool.not_eq_true', Bool.not_eq_false', Bool.and_eq_true, decide_eq_true_eq]
  simp
  omega
end Go.Gv
