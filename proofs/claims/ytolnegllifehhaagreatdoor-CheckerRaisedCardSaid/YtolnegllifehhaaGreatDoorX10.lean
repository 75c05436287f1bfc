/-
 THE LAW CheckerRaised HOLDS: for every input it returns true, and each argument reads afterwards as it read before; the tables of the library that the row lists are tied to the program's text. No conditions of ours.
-/
import Derived.Test.YtolnegllifehhaaGreatDoorCards
import Derived.Test.YtolnegllifehhaaGreatDoorTie
import Derived.SevenTiedAt
import Derived.ProofKit
import Derived.LaidMore
import Derived.OpenShut
import Derived.Stop.Joined
import Derived.Test.YtolnegllifehhaaGreatDoorX6
import Derived.Test.YtolnegllifehhaaGreatDoorX9
set_option linter.all false
namespace Go.Gv
def shSpt : List Sh := [.int .i64, .int .i64, .int .i64]
def shFce : List Sh := [.int .i64, .int .i64, .int .i64, .int .i64]
def shPt : List Sh := [.int .i64, .int .i64]
theorem sl_spt {d : D} (h : cU (.sl shSpt) d) : ∃ (b : Bool) (l : List Spt), d = slx b (l.map gr) := by
 simp only [cU] at h
 obtain ⟨es, h1, h2, h3⟩ := h
 obtain ⟨xs, rfl⟩ := iY (f := gr) (fun e he => by
  have := h3 e he
  simp only [shSpt, bx, cU] at this
  obtain ⟨_, _, rfl, ⟨n1, rfl, _⟩, _, _, rfl, ⟨n2, rfl, _⟩, _, _, rfl, ⟨n3, rfl, _⟩, rfl⟩ := this
  exact ⟨⟨n1, n2, n3⟩, rfl⟩)
 rcases h1 with rfl | ⟨rfl, h1⟩
 ·exact ⟨false, xs, by simp⟩
 ·simp at h1
  subst h1
  exact ⟨true, [], rfl⟩
theorem sl_fce {d : D} (h : cU (.sl shFce) d) : ∃ (b : Bool) (l : List Fce), d = slx b (l.map dc) := by
 simp only [cU] at h
 obtain ⟨es, h1, h2, h3⟩ := h
 obtain ⟨xs, rfl⟩ := iY (f := dc) (fun e he => by
  have := h3 e he
  simp only [shFce, bx, cU] at this
  obtain ⟨_, _, rfl, ⟨n1, rfl, _⟩, _, _, rfl, ⟨n2, rfl, _⟩, _, _, rfl, ⟨n3, rfl, _⟩, _, _, rfl, ⟨n4, rfl, _⟩, rfl⟩ := this
  exact ⟨⟨n1, n2, n3, n4⟩, rfl⟩)
 rcases h1 with rfl | ⟨rfl, h1⟩
 ·exact ⟨false, xs, by simp⟩
 ·simp at h1
  subst h1
  exact ⟨true, [], rfl⟩
theorem sl_pnt {d : D} (h : cU (.sl shPt) d) : ∃ (b : Bool) (l : List Pnt), d = slx b (l.map fun x => ptD x) /\ l.length < 2 ^ 62 := by
 simp only [cU] at h
 obtain ⟨es, h1, h2, h3⟩ := h
 obtain ⟨xs, rfl⟩ := iY (f := fun x => ptD x) (fun e he => by
  have := h3 e he
  simp only [shPt, bx, cU] at this
  obtain ⟨_, _, rfl, ⟨n1, rfl, _⟩, _, _, rfl, ⟨n2, rfl, _⟩, rfl⟩ := this
  exact ⟨(n1, n2), rfl⟩)
 have hl : xs.length < 2 ^ 62 := by rw [List.length_map] at h2; omega
 rcases h1 with rfl | ⟨rfl, h1⟩
 ·exact ⟨false, xs, by simp, hl⟩
 ·simp at h1
  subst h1
  exact ⟨true, [], rfl, by simp⟩
def shMsh : List Sh := [.sl shSpt, .sl shFce]
theorem has_msh {ds : List D} (h : bx shMsh ds) : ∃ m : Msh, ds = cI m := by
 simp only [shMsh, bx] at h
 obtain ⟨d1, r1, rfl, g1, d2, r2, rfl, g2, rfl⟩ := h
 obtain ⟨b1, l1, rfl⟩ := sl_spt g1
 obtain ⟨b2, l2, rfl⟩ := sl_fce g2
 exact ⟨⟨b1, l1, b2, l2⟩, rfl⟩
theorem has_pnt {ds : List D} (h : bx shPt ds) : ∃ p : Pnt, ds = ptD p := by
 simp only [shPt, bx, cU] at h
 obtain ⟨d1, r1, rfl, ⟨n1, rfl, _⟩, d2, r2, rfl, ⟨n2, rfl, _⟩, rfl⟩ := h
 exact ⟨(n1, n2), rfl⟩
theorem sl_kn {d : D} (h : cU (.sl [.int .i64, .int .i64]) d) : ∃ (b : Bool) (l : List (Int × Int)), d = slx b (l.map knD) /\ l.length < 2 ^ 62 := by
 simp only [cU] at h
 obtain ⟨es, h1, h2, h3⟩ := h
 obtain ⟨xs, rfl⟩ := iY (f := knD) (fun e he => by
  have := h3 e he
  simp only [bx, cU] at this
  obtain ⟨d, r, rfl, ⟨n, rfl, _⟩, d', r', rfl, ⟨n', rfl, _⟩, rfl⟩ := this
  exact ⟨(n, n'), rfl⟩)
 have hl : xs.length < 2 ^ 62 := by rw [List.length_map] at h2; omega
 rcases h1 with rfl | ⟨rfl, h1⟩
 ·exact ⟨false, xs, by simp, hl⟩
 ·simp at h1
  subst h1
  exact ⟨true, [], rfl, by simp⟩
def shNod : List Sh := [.str, .int .i64, .int .i64, .int .i64, .int .i64, .int .i64, .sl [.int .i64, .int .i64], .bool, .int .i64]
def shLnk : List Sh := [.str, .str, .str, .int .i64, .int .i64, .int .i64, .int .i64, .str, .int .i64, .int .i64, .sl [.int .i64, .int .i64]]
theorem sl_nod {d : D} (h : cU (.sl shNod) d) : ∃ (b : Bool) (l : List Nod), d = slx b (l.map aQ) /\ l.length < 2 ^ 62 /\ ∀ x ∈ l, x.shape.length < 2 ^ 62 := by
 simp only [cU] at h
 obtain ⟨es, h1, h2, h3⟩ := h
 obtain ⟨xs, hx, rfl⟩ : ∃ xs : List Nod, (∀ x ∈ xs, x.shape.length < 2 ^ 62) /\ es = xs.map aQ := by
  clear h1 h2
  induction es with
  | nil => exact ⟨[], by simp, rfl⟩
  | cons e es ih =>
   obtain ⟨xs, hx, rfl⟩ := ih (fun e he => h3 e (by simp [he]))
   have := h3 e (by simp)
   simp only [shNod, bx] at this
   obtain ⟨d1, r1, rfl, g1, d2, r2, rfl, g2, d3, r3, rfl, g3, d4, r4, rfl, g4, d5, r5, rfl, g5, d6, r6, rfl, g6, d7, r7, rfl, g7, d8, r8, rfl, g8, d9, r9, rfl, g9, rfl⟩ := this
   obtain ⟨b7, l7, rfl, hl7⟩ := sl_kn g7
   simp only [cU] at g1 g2 g3 g4 g5 g6 g8 g9
   obtain ⟨s, rfl, _⟩ := g1
   obtain ⟨n2, rfl, _⟩ := g2
   obtain ⟨n3, rfl, _⟩ := g3
   obtain ⟨n4, rfl, _⟩ := g4
   obtain ⟨n5, rfl, _⟩ := g5
   obtain ⟨n6, rfl, _⟩ := g6
   obtain ⟨n8, rfl⟩ := g8
   obtain ⟨n9, rfl, _⟩ := g9
   exact ⟨⟨s, n2, n3, n4, n5, n6, b7, l7, n8, n9⟩ :: xs, by simpa using ⟨hl7, hx⟩, rfl⟩
 have hl : xs.length < 2 ^ 62 := by rw [List.length_map] at h2; omega
 rcases h1 with rfl | ⟨rfl, h1⟩
 ·exact ⟨false, xs, by simp, hl, hx⟩
 ·simp at h1
  subst h1
  exact ⟨true, [], rfl, by simp, by simp⟩
theorem sl_lnk {d : D} (h : cU (.sl shLnk) d) : ∃ (b : Bool) (l : List Lnk), d = slx b (l.map aD) /\ l.length < 2 ^ 62 /\ ∀ x ∈ l, x.curve.length < 2 ^ 62 := by
 simp only [cU] at h
 obtain ⟨es, h1, h2, h3⟩ := h
 obtain ⟨xs, hx, rfl⟩ : ∃ xs : List Lnk, (∀ x ∈ xs, x.curve.length < 2 ^ 62) /\ es = xs.map aD := by
  clear h1 h2
  induction es with
  | nil => exact ⟨[], by simp, rfl⟩
  | cons e es ih =>
   obtain ⟨xs, hx, rfl⟩ := ih (fun e he => h3 e (by simp [he]))
   have := h3 e (by simp)
   simp only [shLnk, bx] at this
   obtain ⟨d1, r1, rfl, g1, d2, r2, rfl, g2, d3, r3, rfl, g3, d4, r4, rfl, g4, d5, r5, rfl, g5, d6, r6, rfl, g6, d7, r7, rfl, g7, d8, r8, rfl, g8, d9, r9, rfl, g9, d10, r10, rfl, g10, d11, r11, rfl, g11, rfl⟩ := this
   obtain ⟨b11, l11, rfl, hl11⟩ := sl_kn g11
   simp only [cU] at g1 g2 g3 g4 g5 g6 g7 g8 g9 g10
   obtain ⟨s1, rfl, _⟩ := g1
   obtain ⟨s2, rfl, _⟩ := g2
   obtain ⟨s3, rfl, _⟩ := g3
   obtain ⟨n4, rfl, _⟩ := g4
   obtain ⟨n5, rfl, _⟩ := g5
   obtain ⟨n6, rfl, _⟩ := g6
   obtain ⟨n7, rfl, _⟩ := g7
   obtain ⟨s8, rfl, _⟩ := g8
   obtain ⟨n9, rfl, _⟩ := g9
   obtain ⟨n10, rfl, _⟩ := g10
   exact ⟨⟨s1, s2, s3, n4, n5, n6, n7, s8, n9, n10, b11, l11⟩ :: xs, by simpa using ⟨hl11, hx⟩, rfl⟩
 have hl : xs.length < 2 ^ 62 := by rw [List.length_map] at h2; omega
 rcases h1 with rfl | ⟨rfl, h1⟩
 ·exact ⟨false, xs, by simp, hl, hx⟩
 ·simp at h1
  subst h1
  exact ⟨true, [], rfl, by simp, by simp⟩
def shSec : List Sh := [.str, .int .i64, .int .i64, .sl [.int .i64, .int .i64], .sl [.int .i64, .int .i64]]
theorem sl_sec {d : D} (h : cU (.sl shSec) d) : ∃ (b : Bool) (l : List Sec), d = slx b (l.map dS) /\ l.length < 2 ^ 62 := by
 simp only [cU] at h
 obtain ⟨es, h1, h2, h3⟩ := h
 obtain ⟨xs, rfl⟩ := iY (f := dS) (fun e he => by
  have := h3 e he
  simp only [shSec, bx] at this
  obtain ⟨d1, r1, rfl, g1, d2, r2, rfl, g2, d3, r3, rfl, g3, d4, r4, rfl, g4, d5, r5, rfl, g5, rfl⟩ := this
  obtain ⟨b4, l4, rfl, _⟩ := sl_kn g4
  obtain ⟨b5, l5, rfl, _⟩ := sl_kn g5
  simp only [cU] at g1 g2 g3
  obtain ⟨s, rfl, _⟩ := g1
  obtain ⟨n2, rfl, _⟩ := g2
  obtain ⟨n3, rfl, _⟩ := g3
  exact ⟨⟨s, n2, n3, b4, l4, b5, l5⟩, rfl⟩)
 have hl : xs.length < 2 ^ 62 := by rw [List.length_map] at h2; omega
 rcases h1 with rfl | ⟨rfl, h1⟩
 ·exact ⟨false, xs, by simp, hl⟩
 ·simp at h1
  subst h1
  exact ⟨true, [], rfl, by simp⟩
def shNet : List Sh := [.sl shNod, .sl shLnk]
theorem has_net {ds : List D} (h : bx shNet ds) : ∃ (b1 b2 : Bool) (ns : List Nod) (ls : List Lnk), ds = [slx b1 (ns.map aQ), slx b2 (ls.map aD)] /\ ns.length < 2 ^ 62 /\ ls.length < 2 ^ 62 /\ (∀ x ∈ ls, x.curve.length < 2 ^ 62) := by
 simp only [shNet, bx] at h
 obtain ⟨d1, r1, rfl, g1, d2, r2, rfl, g2, rfl⟩ := h
 obtain ⟨b1, l1, rfl, h1, h2⟩ := sl_nod g1
 obtain ⟨b2, l2, rfl, h3, h4⟩ := sl_lnk g2
 exact ⟨b1, b2, l1, l2, rfl, h1, h3, h4⟩
theorem i32_bd {n : Int} (h : (Lit.int .i32 n).wf = true) : -2147483648 <= n /\ n <= 2147483647 := by
 have e1 : IntKind.i32.min = -2147483648 := rfl
 have e2 : IntKind.i32.max = 2147483647 := rfl
 simp [Lit.wf, e1, e2] at h
 omega
section
open Go.ChangeShapes
variable {H : Type} {enc : TypeId × Value -> H} {P : Program} {w : World} {base : Nat} {spare : Nat -> Bool} {held : Bool}
theorem trodAll_args {t0 t1 t2 t3 t4 t5 : TypeId} {args : Array Value} {ds : List (DataW H)} {ps : List MemPlace} (h : DataW.TrodAll enc P w base spare held [t0, t1, t2, t3, t4, t5] args.toList ds ps) :
  ∃ v0 v1 v2 v3 v4 v5 d0 d1 d2 d3 d4 d5 p0 p1 p2 p3 p4 p5, args = #[v0, v1, v2, v3, v4, v5] /\ ds = [d0, d1, d2, d3, d4, d5] /\ ps = p0 ++ (p1 ++ (p2 ++ (p3 ++ (p4 ++ (p5))))) /\ DataW.Trod enc P w base spare held t0 v0 d0 p0 /\ DataW.Trod enc P w base spare held t1 v1 d1 p1 /\ DataW.Trod enc P w base spare held t2 v2 d2 p2 /\ DataW.Trod enc P w base spare held t3 v3 d3 p3 /\ DataW.Trod enc P w base spare held t4 v4 d4 p4 /\ DataW.Trod enc P w base spare held t5 v5 d5 p5 := by
 obtain ⟨v0, vs0, d0, ds0, p0, q0, hargs, rfl, rfl, h0, h⟩ := trodAll_cons h
 obtain ⟨v1, vs1, d1, ds1, p1, q1, rfl, rfl, rfl, h1, h⟩ := trodAll_cons h
 obtain ⟨v2, vs2, d2, ds2, p2, q2, rfl, rfl, rfl, h2, h⟩ := trodAll_cons h
 obtain ⟨v3, vs3, d3, ds3, p3, q3, rfl, rfl, rfl, h3, h⟩ := trodAll_cons h
 obtain ⟨v4, vs4, d4, ds4, p4, q4, rfl, rfl, rfl, h4, h⟩ := trodAll_cons h
 obtain ⟨v5, vs5, d5, ds5, p5, q5, rfl, rfl, rfl, h5, h⟩ := trodAll_cons h
 obtain ⟨rfl, rfl, rfl⟩ := trodAll_nil h
 exact ⟨v0, v1, v2, v3, v4, v5, d0, d1, d2, d3, d4, d5, p0, p1, p2, p3, p4, p5, by cases args; simp_all, rfl, by simp, h0, h1, h2, h3, h4, h5⟩
end
end Go.Gv
namespace Go.Proofs.YtolnegllifehhaaGreatDoor
open Go.ChangeShapes Go.WideShapes Go.ChangeAt Go.RowKit Go.Gv

theorem Tryz.own : ownKnob Tryz.prog.godebug = none := by kernel_rfl
theorem Tryz.laidOut : laidOutB Tryz.prog = true := by kernel_rfl
theorem Tryz.seat : bU Tryz.prog ⟨Tryz.prog, fun g => TryzTbl.lookup g, fun t => (TryzTys.lookup t).getD 0⟩ (eJ Tryz.prog ⟨Tryz.prog, fun g => TryzTbl.lookup g, fun t => (TryzTys.lookup t).getD 0⟩) /\ aj prog (eJ Tryz.prog ⟨Tryz.prog, fun g => TryzTbl.lookup g, fun t => (TryzTys.lookup t).getD 0⟩) :=
 Go.Gv.seat (by kernel_rfl) Tryz.laidOut Tryz_all
set_option maxRecDepth 100000 in
theorem Tryz.slc : SlC (eJ Tryz.prog ⟨Tryz.prog, fun g => TryzTbl.lookup g, fun t => (TryzTys.lookup t).getD 0⟩) where
 sort zs h := nq Tryz.lays189 (fun f hf => Option.some.inj (hf.symm.trans (show TryzTbl.lookup 366 = some (Tryz.lays189_ren.f 189) by kernel_rfl))) zs h
 compact zs h := nO Tryz.laysNm220 (fun f hf => Option.some.inj (hf.symm.trans (show TryzTbl.lookup 523 = some (Tryz.laysNm220_ren.f 20) by kernel_rfl))) zs h
 insert zs i x h1 h2 := ⟨trivial, fun f hf => by
  have e : TryzTbl.lookup 519 = none := by kernel_rfl
  exact absurd (e.symm.trans hf) (by simp)⟩
def Tryz.encF (x : Fnd) : List Value := [.int .i64 x.1, .string ⟨x.2.toArray⟩]
set_option maxRecDepth 100000 in
theorem Tryz.chk : qV (eJ Tryz.prog ⟨Tryz.prog, fun g => TryzTbl.lookup g, fun t => (TryzTys.lookup t).getD 0⟩) where
 scmp a b := sg Tryz.lays106 (fun f hf => Option.some.inj (hf.symm.trans (show TryzTbl.lookup 632 = some (Tryz.lays106_ren.f 106) by kernel_rfl))) a b
 sort L hl hcl := mc (f1 := 48) 2 (by omega) Tryz.encF cS (fun _ => rfl) (fun _ => rfl) (fun x v hv => by
   simp only [Tryz.encF, List.mem_cons, List.not_mem_nil, or_false] at hv
   rcases hv with rfl | rfl <;> rfl) (fun M x i d u h1 h2 => by
   match i, h1 with
   | 0, h1 => simp [cS] at h1; subst h1; simp only [ae] at h2; subst h2; rfl
   | 1, h1 => simp [cS] at h1; subst h1; simp only [ae] at h2; subst h2; rfl
   | i + 2, h1 => simp [cS] at h1) (fun M x => by simp only [cS, Tryz.encF, ap, ae]; exact ⟨_, _, rfl, rfl, _, _, rfl, rfl, rfl⟩) eS ji.swo ji.tot
   (fun f hf => Option.some.inj (hf.symm.trans (show TryzTbl.lookup 630 = some 48 by kernel_rfl))) Tryz.sortN_none
   (fun g cb blk off cap d w eg hcmp hH hb hs => Tryz.sortN_eq 2 Tryz.isAgg51 Tryz.sizeOf51 Tryz.encF (fun _ => rfl) (fun x v hv => by
    simp only [Tryz.encF, List.mem_cons, List.not_mem_nil, or_false] at hv
    rcases hv with rfl | rfl <;> rfl) eS ji.swo g cb blk off cap d w eg hcmp hH hb hs)
   (fun f hf => by
    obtain rfl : f = 49 := Option.some.inj (hf.symm.trans (show TryzTbl.lookup 631 = some 49 by kernel_rfl))
    kernel_rfl) hcl L hl
theorem Tryz.rai : yO (eJ Tryz.prog ⟨Tryz.prog, fun g => TryzTbl.lookup g, fun t => (TryzTys.lookup t).getD 0⟩) where
 nilN _ h := jI h
 nilL _ h := jI h
theorem Tryz.sh30 : nD Tryz.prog 10 30 = some shMsh := by kernel_rfl
theorem Tryz.sh25 : nD Tryz.prog 10 25 = some shNet := by kernel_rfl
theorem Tryz.sh26 : nD Tryz.prog 10 26 = some [.sl shSec] := by kernel_rfl
theorem Tryz.itoa (n : Nat) (hn : n < 100) : eJ Tryz.prog ⟨Tryz.prog, fun g => TryzTbl.lookup g, fun t => (TryzTys.lookup t).getD 0⟩ 127 [.int .i64 n] (.str (Lib.decDigits n)) [] := by
 refine sf fun f hf M w vs r => ?_
 have e : f = 93 := Option.some.inj (hf.symm.trans (show TryzTbl.lookup 127 = some 93 from rfl))
 subst e
 simp only [ap, ae] at r
 obtain ⟨v, r', rfl, rfl, rfl⟩ := r
 exact ⟨.string ⟨(Lib.decDigits n).toArray⟩, by simp only [ae], Tryz.strconv_Itoa_small n hn w⟩

/-- The door's own heap meets the condition. -/
theorem Tryz.met (os : Os) (args : Array Value) : laidMetH Tryz.prog Rows.checkerRaisedRow.laid ((World.doorLaid Tryz.prog 24 os).forCall (fun _ _ => 0) ⟨#[], args, []⟩).memory :=
 laidMetH_of_parts3 (fuel := 8) (laidMet_of_run' 8 (by kernel_rfl) (by kernel_rfl)) (by kernel_rfl) (by kernel_rfl)

set_option maxRecDepth 100000 in
theorem checkerRaised_lifted (os : Os) (started : os.Started) (H : Type) (enc : TypeId × Value -> H) :
  ReturnsInHanded {} Tryz.checked os 3 .any (fun w args => (Rows.checkerRaisedSpec.pre enc Tryz.prog Tryz.f3 [] false w args /\ laidMetH Tryz.prog Rows.checkerRaisedRow.laid w) /\ sizedMet enc Tryz.prog Tryz.f3 (OpenSpec.ofChange Rows.checkerRaisedSpec) false w args) (Rows.checkerRaisedSpec.post enc Tryz.prog Tryz.f3 false true false false) := by
 refine returnsInHanded_of_change_and (C := Tryz.checked) (X := fun w _ => laidMetH Tryz.prog Rows.checkerRaisedRow.laid w) (fun _ _ _ hh h => h.of_heap hh) Tryz.own started (by kernel_rfl) Tryz.func3
  (ChangeSpec.witness_shaped (enc := enc) (C := Tryz.checked) (os := os) (X := fun w _ => laidMetH Tryz.prog Rows.checkerRaisedRow.laid w) false (World.doorLaid Tryz.prog 24 os) #[.agg #[.slice none 0 0, .slice none 0 0], .slice none 0 0, .int .i32 0, .agg #[.slice none 0 0, .slice none 0 0], .int .i64 0, .int .i64 0] 8 rfl (World.shaped_of_RefB (by kernel_rfl) (by kernel_rfl)) (by kernel_rfl) (by kernel_rfl) (by kernel_rfl) (Tryz.met os _)) ?_
 intro W base args ds gs before hval0 hW _ hsz0 _ _
 have hsz : (DataW.weightsEach Tryz.prog (Tryz.f3.params.toList ++ Rows.checkerRaisedSpec.plain.varTypes Tryz.prog) (ds ++ gs)).all (· <= reachBytes) = true := hsz0
 clear hsz0
 have hval : ∀ (j : Nat) t v, Tryz.f3.params[j]? = some t -> args[j]? = some v -> Value.okWide Tryz.prog W .any base t v := hval0
 have hW' := hW
 obtain ⟨p, q, hA0, hV, rfl, hfz, hnd⟩ := hW
 have hA : DataW.TrodAll enc Tryz.prog W 0 (fun _ => true) true Tryz.f3.params.toList args.toList ds p := hA0
 rw [Tryz.params3] at hA hval hsz
 obtain ⟨v0, v1, v2, v3, v4, v5, d0, d1, d2, d3, d4, d5, p0, p1, p2, p3, p4, p5, rfl, rfl, rfl, h0, h1, h2, h3, h4, h5⟩ := trodAll_args hA
 obtain ⟨rfl, rfl⟩ := trodVars_none hV
 clear hA0 hval0
 simp only [List.append_nil] at hW'
 simp only [DataW.weightsEach, List.cons_append, List.nil_append, List.all_append, Bool.and_eq_true] at hsz
 have hlt : ∀ x ∈ p0 ++ (p1 ++ (p2 ++ (p3 ++ (p4 ++ (p5))))), x.block < W.heap.size := fun x hx => by simpa using hW'.lt x (by simpa using hx)
 obtain ⟨c0, s0, r0⟩ := mB (F := ⟨Tryz.prog, fun g => TryzTbl.lookup g, fun t => (TryzTys.lookup t).getD 0⟩) Tryz.underlying25 Tryz.sh25 (hval 0 25 v0 rfl rfl) h0 hsz.1
 obtain ⟨b0, b0', ns0, ls0, rfl, g0, g0', g0''⟩ := has_net s0
 obtain ⟨c1, s1, r1⟩ := tJ (F := ⟨Tryz.prog, fun g => TryzTbl.lookup g, fun t => (TryzTys.lookup t).getD 0⟩) Tryz.underlying26 Tryz.sh26 (hval 1 26 v1 rfl rfl) h1 hsz.2.1
 obtain ⟨b1, l1, rfl, hl1⟩ := sl_sec s1
 obtain ⟨n2, w2, r2⟩ := oL (F := ⟨Tryz.prog, fun g => TryzTbl.lookup g, fun t => (TryzTys.lookup t).getD 0⟩) Tryz.underlying21 (hval 2 21 v2 rfl rfl) h2
 have u2 := i32_bd w2
 obtain ⟨c3, s3, r3⟩ := mB (F := ⟨Tryz.prog, fun g => TryzTbl.lookup g, fun t => (TryzTys.lookup t).getD 0⟩) Tryz.underlying30 Tryz.sh30 (hval 3 30 v3 rfl rfl) h3 hsz.2.2.2.1
 obtain ⟨m3, rfl⟩ := has_msh s3
 obtain ⟨n4, w4, r4⟩ := oL (F := ⟨Tryz.prog, fun g => TryzTbl.lookup g, fun t => (TryzTys.lookup t).getD 0⟩) Tryz.underlying3 (hval 4 3 v4 rfl rfl) h4
 obtain ⟨n5, w5, r5⟩ := oL (F := ⟨Tryz.prog, fun g => TryzTbl.lookup g, fun t => (TryzTys.lookup t).getD 0⟩) Tryz.underlying3 (hval 5 3 v5 rfl rfl) h5
 have hrun := (lW Tryz.seat.2 Tryz.slc Tryz.chk Tryz.rai Lib.decDigits Tryz.itoa b0 b0' ns0 ls0 g0 g0' g0'' b1 l1 hl1 n2 u2 m3 n4 n5).2 3 rfl
 have hargs0 : ∀ (W' : World), Below W.heap.size W W' -> DataW.Trod enc Tryz.prog W' 0 (fun b => decide (b < W.heap.size)) true 25 v0 d0 p0 :=
  fun W' hn => Below.trod Tryz.laidOut (by kernel_rfl) (of_decide_eq_true (by kernel_rfl)) h0 hn (fun x hx => hlt x (by simp [hx]))
 have hargs1 : ∀ (W' : World), Below W.heap.size W W' -> DataW.Trod enc Tryz.prog W' 0 (fun b => decide (b < W.heap.size)) true 26 v1 d1 p1 :=
  fun W' hn => Below.trod Tryz.laidOut (by kernel_rfl) (of_decide_eq_true (by kernel_rfl)) h1 hn (fun x hx => hlt x (by simp [hx]))
 have hargs2 : ∀ (W' : World), Below W.heap.size W W' -> DataW.Trod enc Tryz.prog W' 0 (fun b => decide (b < W.heap.size)) true 21 v2 d2 p2 :=
  fun W' hn => Below.trod Tryz.laidOut (by kernel_rfl) (of_decide_eq_true (by kernel_rfl)) h2 hn (fun x hx => hlt x (by simp [hx]))
 have hargs3 : ∀ (W' : World), Below W.heap.size W W' -> DataW.Trod enc Tryz.prog W' 0 (fun b => decide (b < W.heap.size)) true 30 v3 d3 p3 :=
  fun W' hn => Below.trod Tryz.laidOut (by kernel_rfl) (of_decide_eq_true (by kernel_rfl)) h3 hn (fun x hx => hlt x (by simp [hx]))
 have hargs4 : ∀ (W' : World), Below W.heap.size W W' -> DataW.Trod enc Tryz.prog W' 0 (fun b => decide (b < W.heap.size)) true 3 v4 d4 p4 :=
  fun W' hn => Below.trod Tryz.laidOut (by kernel_rfl) (of_decide_eq_true (by kernel_rfl)) h4 hn (fun x hx => hlt x (by simp [hx]))
 have hargs5 : ∀ (W' : World), Below W.heap.size W W' -> DataW.Trod enc Tryz.prog W' 0 (fun b => decide (b < W.heap.size)) true 3 v5 d5 p5 :=
  fun W' hn => Below.trod Tryz.laidOut (by kernel_rfl) (of_decide_eq_true (by kernel_rfl)) h5 hn (fun x hx => hlt x (by simp [hx]))
 have hcall := hrun (mE W) W [v0, v1, v2, v3, v4, v5] (fun p v h => h) (by simp only [ap]; exact ⟨v0, _, rfl, r0, v1, _, rfl, r1, v2, _, rfl, r2, v3, _, rfl, r3, v4, _, rfl, r4, v5, _, rfl, r5, rfl⟩)
 refine hcall.mono fun e W' ⟨v, M', he, hn0, _, _, _, hv⟩ => ?_
 have hn := hn0.below
 simp only [ae] at hv
 subst hv
 refine ⟨_, he, _, _, _, [], p0 ++ (p1 ++ (p2 ++ (p3 ++ (p4 ++ (p5))))), [], hW', trodAll_mk1 (shut_bool Tryz.underlying4 _), ⟨p0, _, hargs0 _ hn, ⟨p1, _, hargs1 _ hn, ⟨p2, _, hargs2 _ hn, ⟨p3, _, hargs3 _ hn, ⟨p4, _, hargs4 _ hn, trodAll_mk1 (hargs5 _ hn), rfl⟩, rfl⟩, rfl⟩, rfl⟩, rfl⟩, rfl, hn.frame _, fun h => by cases h⟩

theorem checkerRaised_row : Rows.CheckerRaisedSaid :=
 OpenClaim.holds_of_wide 3 Tryz.f3 rfl rfl rfl rfl rfl rfl rfl ⟨rfl, rfl, rfl, rfl, rfl⟩ rfl rfl rfl rfl rfl (by kernel_rfl) Tryz.func3 (by kernel_rfl)
  (of_decide_eq_true (by kernel_rfl)) (by unfold Func.isWrapper; first | (rw [if_pos (by decide +kernel)]; kernel_rfl) | (rw [if_neg (by decide +kernel)]; exact ⟨rfl, rfl⟩))
  (fun os started H enc _ => checkerRaised_lifted os started H enc)
theorem checkerRaised_holds : Rows.CheckerRaisedCardSaid :=
 Claim7.holds_tied_plain_at .later [] [.data, .data, .data] true (true, "0ab0fca91c247f6f28f73e4b5ac32f0dfc8e52627ffef4fe7cda928a86f7381c") false
  checkerRaised_row (fun _ h => by cases h) (by kernel_rfl) (fun _ h => by cases h) checkerRaised_row_tie rfl ⟨rfl, rfl⟩ (by kernel_rfl) rfl
  (fun f fn hf hfn => by
   obtain rfl : f = 3 := Option.some.inj ((show Tryz.prog.funcNamed "sewershed/sewershedlaw27.CheckerRaised" = some 3 by kernel_rfl).symm.trans hf) |>.symm
   obtain rfl : fn = Tryz.f3 := (Option.some.inj (Tryz.func3.symm.trans hfn)).symm
   exact ⟨by kernel_rfl, fun j t ht => by
    rw [Tryz.params3] at ht
    have h3 : t = 25 \/ t = 26 \/ t = 21 \/ t = 30 \/ t = 3 \/ t = 3 := by
     rcases j with _ | _ | _ | _ | _ | _ | j
     ·left; simpa using ht.symm
     ·right; left; simpa using ht.symm
     ·right; right; left; simpa using ht.symm
     ·right; right; right; left; simpa using ht.symm
     ·right; right; right; right; left; simpa using ht.symm
     ·right; right; right; right; right; simpa using ht.symm
     ·simp at ht
    rcases h3 with rfl | rfl | rfl | rfl | rfl | rfl
    ·exact (show Tryz.prog.wantsStandIn 25 = false by kernel_rfl)
    ·exact (show Tryz.prog.wantsStandIn 26 = false by kernel_rfl)
    ·exact (show Tryz.prog.wantsStandIn 21 = false by kernel_rfl)
    ·exact (show Tryz.prog.wantsStandIn 30 = false by kernel_rfl)
    ·exact (show Tryz.prog.wantsStandIn 3 = false by kernel_rfl)
    ·exact (show Tryz.prog.wantsStandIn 3 = false by kernel_rfl)⟩)
  (by kernel_rfl)
#print axioms checkerRaised_holds
end Go.Proofs.YtolnegllifehhaaGreatDoor
