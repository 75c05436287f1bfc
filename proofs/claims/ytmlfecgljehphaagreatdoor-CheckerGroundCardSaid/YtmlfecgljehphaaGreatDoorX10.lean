/-
 THE LAW CheckerGround HOLDS: for every input it returns true, and each argument reads afterwards as it read before; the tables of the library that the row lists are tied to the program's text. No conditions of ours.
-/
import Derived.Test.YtmlfecgljehphaaGreatDoorCards
import Derived.Test.YtmlfecgljehphaaGreatDoorTie
import Derived.SevenTiedAt
import Derived.ProofKit
import Derived.LaidMore
import Derived.OpenShut
import Derived.Stop.Joined
import Derived.Test.YtmlfecgljehphaaGreatDoorX6
import Derived.Test.YtmlfecgljehphaaGreatDoorX9
set_option linter.all false
namespace Go.Gv
def shSpt : List Sh := [.int .i64, .int .i64, .int .i64]
def shFce : List Sh := [.int .i64, .int .i64, .int .i64, .int .i64]
def shPt : List Sh := [.int .i64, .int .i64]
theorem sl_spt {d : D} (h : eA (.sl shSpt) d) : ∃ (b : Bool) (l : List Spt), d = slx b (l.map fU) := by
 simp only [eA] at h
 obtain ⟨es, h1, h2, h3⟩ := h
 obtain ⟨xs, rfl⟩ := kL (f := fU) (fun e he => by
  have := h3 e he
  simp only [shSpt, bK, eA] at this
  obtain ⟨_, _, rfl, ⟨n1, rfl, _⟩, _, _, rfl, ⟨n2, rfl, _⟩, _, _, rfl, ⟨n3, rfl, _⟩, rfl⟩ := this
  exact ⟨⟨n1, n2, n3⟩, rfl⟩)
 rcases h1 with rfl | ⟨rfl, h1⟩
 ·exact ⟨false, xs, by simp⟩
 ·simp at h1
  subst h1
  exact ⟨true, [], rfl⟩
theorem sl_fce {d : D} (h : eA (.sl shFce) d) : ∃ (b : Bool) (l : List Fce), d = slx b (l.map bE) := by
 simp only [eA] at h
 obtain ⟨es, h1, h2, h3⟩ := h
 obtain ⟨xs, rfl⟩ := kL (f := bE) (fun e he => by
  have := h3 e he
  simp only [shFce, bK, eA] at this
  obtain ⟨_, _, rfl, ⟨n1, rfl, _⟩, _, _, rfl, ⟨n2, rfl, _⟩, _, _, rfl, ⟨n3, rfl, _⟩, _, _, rfl, ⟨n4, rfl, _⟩, rfl⟩ := this
  exact ⟨⟨n1, n2, n3, n4⟩, rfl⟩)
 rcases h1 with rfl | ⟨rfl, h1⟩
 ·exact ⟨false, xs, by simp⟩
 ·simp at h1
  subst h1
  exact ⟨true, [], rfl⟩
theorem sl_pnt {d : D} (h : eA (.sl shPt) d) : ∃ (b : Bool) (l : List Pnt), d = slx b (l.map fun x => ptD x) /\ l.length < 2 ^ 62 := by
 simp only [eA] at h
 obtain ⟨es, h1, h2, h3⟩ := h
 obtain ⟨xs, rfl⟩ := kL (f := fun x => ptD x) (fun e he => by
  have := h3 e he
  simp only [shPt, bK, eA] at this
  obtain ⟨_, _, rfl, ⟨n1, rfl, _⟩, _, _, rfl, ⟨n2, rfl, _⟩, rfl⟩ := this
  exact ⟨(n1, n2), rfl⟩)
 have hl : xs.length < 2 ^ 62 := by rw [List.length_map] at h2; omega
 rcases h1 with rfl | ⟨rfl, h1⟩
 ·exact ⟨false, xs, by simp, hl⟩
 ·simp at h1
  subst h1
  exact ⟨true, [], rfl, by simp⟩
def shMsh : List Sh := [.sl shSpt, .sl shFce]
theorem has_msh {ds : List D} (h : bK shMsh ds) : ∃ m : Msh, ds = bz m := by
 simp only [shMsh, bK] at h
 obtain ⟨d1, r1, rfl, g1, d2, r2, rfl, g2, rfl⟩ := h
 obtain ⟨b1, l1, rfl⟩ := sl_spt g1
 obtain ⟨b2, l2, rfl⟩ := sl_fce g2
 exact ⟨⟨b1, l1, b2, l2⟩, rfl⟩
theorem has_pnt {ds : List D} (h : bK shPt ds) : ∃ p : Pnt, ds = ptD p := by
 simp only [shPt, bK, eA] at h
 obtain ⟨d1, r1, rfl, ⟨n1, rfl, _⟩, d2, r2, rfl, ⟨n2, rfl, _⟩, rfl⟩ := h
 exact ⟨(n1, n2), rfl⟩
theorem sl_kn {d : D} (h : eA (.sl [.int .i64, .int .i64]) d) : ∃ (b : Bool) (l : List (Int × Int)), d = slx b (l.map knD) /\ l.length < 2 ^ 62 := by
 simp only [eA] at h
 obtain ⟨es, h1, h2, h3⟩ := h
 obtain ⟨xs, rfl⟩ := kL (f := knD) (fun e he => by
  have := h3 e he
  simp only [bK, eA] at this
  obtain ⟨d, r, rfl, ⟨n, rfl, _⟩, d', r', rfl, ⟨n', rfl, _⟩, rfl⟩ := this
  exact ⟨(n, n'), rfl⟩)
 have hl : xs.length < 2 ^ 62 := by rw [List.length_map] at h2; omega
 rcases h1 with rfl | ⟨rfl, h1⟩
 ·exact ⟨false, xs, by simp, hl⟩
 ·simp at h1
  subst h1
  exact ⟨true, [], rfl, by simp⟩
def shNod : List Sh := [.str, .int .i64, .int .i64, .int .i64, .int .i64, .int .i64, .sl [.int .i64, .int .i64], .bool, .int .i64]
def shLnk : List Sh := [.str, .str, .str, .int .i64, .int .i64, .int .i64, .int .i64, .str, .int .i64, .int .i64, .sl [.int .i64, .int .i64]]
theorem sl_nod {d : D} (h : eA (.sl shNod) d) : ∃ (b : Bool) (l : List Nod), d = slx b (l.map bk) /\ l.length < 2 ^ 62 /\ ∀ x ∈ l, x.shape.length < 2 ^ 62 := by
 simp only [eA] at h
 obtain ⟨es, h1, h2, h3⟩ := h
 obtain ⟨xs, hx, rfl⟩ : ∃ xs : List Nod, (∀ x ∈ xs, x.shape.length < 2 ^ 62) /\ es = xs.map bk := by
  clear h1 h2
  induction es with
  | nil => exact ⟨[], by simp, rfl⟩
  | cons e es ih =>
   obtain ⟨xs, hx, rfl⟩ := ih (fun e he => h3 e (by simp [he]))
   have := h3 e (by simp)
   simp only [shNod, bK] at this
   obtain ⟨d1, r1, rfl, g1, d2, r2, rfl, g2, d3, r3, rfl, g3, d4, r4, rfl, g4, d5, r5, rfl, g5, d6, r6, rfl, g6, d7, r7, rfl, g7, d8, r8, rfl, g8, d9, r9, rfl, g9, rfl⟩ := this
   obtain ⟨b7, l7, rfl, hl7⟩ := sl_kn g7
   simp only [eA] at g1 g2 g3 g4 g5 g6 g8 g9
   obtain ⟨s, rfl, _⟩ := g1
   obtain ⟨n2, rfl, _⟩ := g2
   obtain ⟨n3, rfl, _⟩ := g3
   obtain ⟨n4, rfl, _⟩ := g4
   obtain ⟨n5, rfl, _⟩ := g5
   obtain ⟨n6, rfl, _⟩ := g6
   obtain ⟨n8, rfl⟩ := g8
   obtain ⟨n9, rfl, _⟩ := g9
   exact ⟨⟨s, n2, n3, n4, n5, n6, b7, l7, n8, n9⟩ :: xs, by simpa using ⟨hl7, hx⟩, rfl⟩
 have hl : xs.length < 2 ^ 62 := by rw [List.length_map] at h2; omega
 rcases h1 with rfl | ⟨rfl, h1⟩
 ·exact ⟨false, xs, by simp, hl, hx⟩
 ·simp at h1
  subst h1
  exact ⟨true, [], rfl, by simp, by simp⟩
theorem sl_lnk {d : D} (h : eA (.sl shLnk) d) : ∃ (b : Bool) (l : List Lnk), d = slx b (l.map aS) /\ l.length < 2 ^ 62 /\ ∀ x ∈ l, x.curve.length < 2 ^ 62 := by
 simp only [eA] at h
 obtain ⟨es, h1, h2, h3⟩ := h
 obtain ⟨xs, hx, rfl⟩ : ∃ xs : List Lnk, (∀ x ∈ xs, x.curve.length < 2 ^ 62) /\ es = xs.map aS := by
  clear h1 h2
  induction es with
  | nil => exact ⟨[], by simp, rfl⟩
  | cons e es ih =>
   obtain ⟨xs, hx, rfl⟩ := ih (fun e he => h3 e (by simp [he]))
   have := h3 e (by simp)
   simp only [shLnk, bK] at this
   obtain ⟨d1, r1, rfl, g1, d2, r2, rfl, g2, d3, r3, rfl, g3, d4, r4, rfl, g4, d5, r5, rfl, g5, d6, r6, rfl, g6, d7, r7, rfl, g7, d8, r8, rfl, g8, d9, r9, rfl, g9, d10, r10, rfl, g10, d11, r11, rfl, g11, rfl⟩ := this
   obtain ⟨b11, l11, rfl, hl11⟩ := sl_kn g11
   simp only [eA] at g1 g2 g3 g4 g5 g6 g7 g8 g9 g10
   obtain ⟨s1, rfl, _⟩ := g1
   obtain ⟨s2, rfl, _⟩ := g2
   obtain ⟨s3, rfl, _⟩ := g3
   obtain ⟨n4, rfl, _⟩ := g4
   obtain ⟨n5, rfl, _⟩ := g5
   obtain ⟨n6, rfl, _⟩ := g6
   obtain ⟨n7, rfl, _⟩ := g7
   obtain ⟨s8, rfl, _⟩ := g8
   obtain ⟨n9, rfl, _⟩ := g9
   obtain ⟨n10, rfl, _⟩ := g10
   exact ⟨⟨s1, s2, s3, n4, n5, n6, n7, s8, n9, n10, b11, l11⟩ :: xs, by simpa using ⟨hl11, hx⟩, rfl⟩
 have hl : xs.length < 2 ^ 62 := by rw [List.length_map] at h2; omega
 rcases h1 with rfl | ⟨rfl, h1⟩
 ·exact ⟨false, xs, by simp, hl, hx⟩
 ·simp at h1
  subst h1
  exact ⟨true, [], rfl, by simp, by simp⟩
def shNet : List Sh := [.sl shNod, .sl shLnk]
theorem has_net {ds : List D} (h : bK shNet ds) : ∃ (b1 b2 : Bool) (ns : List Nod) (ls : List Lnk), ds = [slx b1 (ns.map bk), slx b2 (ls.map aS)] /\ ns.length < 2 ^ 62 /\ ls.length < 2 ^ 62 /\ (∀ x ∈ ls, x.curve.length < 2 ^ 62) := by
 simp only [shNet, bK] at h
 obtain ⟨d1, r1, rfl, g1, d2, r2, rfl, g2, rfl⟩ := h
 obtain ⟨b1, l1, rfl, h1, h2⟩ := sl_nod g1
 obtain ⟨b2, l2, rfl, h3, h4⟩ := sl_lnk g2
 exact ⟨b1, b2, l1, l2, rfl, h1, h3, h4⟩
section
open Go.ChangeShapes
variable {H : Type} {enc : TypeId × Value -> H} {P : Program} {w : World} {base : Nat} {spare : Nat -> Bool} {held : Bool}
theorem trodAll_args {t0 t1 t2 : TypeId} {args : Array Value} {ds : List (DataW H)} {ps : List MemPlace} (h : DataW.TrodAll enc P w base spare held [t0, t1, t2] args.toList ds ps) :
  ∃ v0 v1 v2 d0 d1 d2 p0 p1 p2, args = #[v0, v1, v2] /\ ds = [d0, d1, d2] /\ ps = p0 ++ (p1 ++ (p2)) /\ DataW.Trod enc P w base spare held t0 v0 d0 p0 /\ DataW.Trod enc P w base spare held t1 v1 d1 p1 /\ DataW.Trod enc P w base spare held t2 v2 d2 p2 := by
 obtain ⟨v0, vs0, d0, ds0, p0, q0, hargs, rfl, rfl, h0, h⟩ := trodAll_cons h
 obtain ⟨v1, vs1, d1, ds1, p1, q1, rfl, rfl, rfl, h1, h⟩ := trodAll_cons h
 obtain ⟨v2, vs2, d2, ds2, p2, q2, rfl, rfl, rfl, h2, h⟩ := trodAll_cons h
 obtain ⟨rfl, rfl, rfl⟩ := trodAll_nil h
 exact ⟨v0, v1, v2, d0, d1, d2, p0, p1, p2, by cases args; simp_all, rfl, by simp, h0, h1, h2⟩
end
end Go.Gv
namespace Go.Proofs.YtmlfecgljehphaaGreatDoor
open Go.ChangeShapes Go.WideShapes Go.ChangeAt Go.RowKit Go.Gv

theorem Tryz.own : ownKnob Tryz.prog.godebug = none := by kernel_rfl
theorem Tryz.laidOut : laidOutB Tryz.prog = true := by kernel_rfl
theorem Tryz.seat : b8 Tryz.prog ⟨Tryz.prog, fun g => TryzTbl.lookup g, fun t => (TryzTys.lookup t).getD 0⟩ (fL Tryz.prog ⟨Tryz.prog, fun g => TryzTbl.lookup g, fun t => (TryzTys.lookup t).getD 0⟩) /\ ao prog (fL Tryz.prog ⟨Tryz.prog, fun g => TryzTbl.lookup g, fun t => (TryzTys.lookup t).getD 0⟩) :=
 Go.Gv.seat (by kernel_rfl) Tryz.laidOut Tryz_all
set_option maxRecDepth 100000 in
theorem Tryz.slc : SlC (fL Tryz.prog ⟨Tryz.prog, fun g => TryzTbl.lookup g, fun t => (TryzTys.lookup t).getD 0⟩) where
 sort zs h := ng Tryz.lays189 (fun f hf => Option.some.inj (hf.symm.trans (show TryzTbl.lookup 366 = some (Tryz.lays189_ren.f 189) by kernel_rfl))) zs h
 compact zs h := nL Tryz.laysNm220 (fun f hf => Option.some.inj (hf.symm.trans (show TryzTbl.lookup 523 = some (Tryz.laysNm220_ren.f 20) by kernel_rfl))) zs h
 insert zs i x h1 h2 := ⟨trivial, fun f hf => by
  have e : TryzTbl.lookup 519 = none := by kernel_rfl
  exact absurd (e.symm.trans hf) (by simp)⟩
def Tryz.encF (x : Fnd) : List Value := [.int .i64 x.1, .string ⟨x.2.toArray⟩]
set_option maxRecDepth 100000 in
theorem Tryz.chk : re (fL Tryz.prog ⟨Tryz.prog, fun g => TryzTbl.lookup g, fun t => (TryzTys.lookup t).getD 0⟩) where
 scmp a b := sk Tryz.lays106 (fun f hf => Option.some.inj (hf.symm.trans (show TryzTbl.lookup 632 = some (Tryz.lays106_ren.f 106) by kernel_rfl))) a b
 sort L hl hcl := mb (f1 := 60) 2 (by omega) Tryz.encF fj (fun _ => rfl) (fun _ => rfl) (fun x v hv => by
   simp only [Tryz.encF, List.mem_cons, List.not_mem_nil, or_false] at hv
   rcases hv with rfl | rfl <;> rfl) (fun M x i d u h1 h2 => by
   match i, h1 with
   | 0, h1 => simp [fj] at h1; subst h1; simp only [af] at h2; subst h2; rfl
   | 1, h1 => simp [fj] at h1; subst h1; simp only [af] at h2; subst h2; rfl
   | i + 2, h1 => simp [fj] at h1) (fun M x => by simp only [fj, Tryz.encF, au, af]; exact ⟨_, _, rfl, rfl, _, _, rfl, rfl, rfl⟩) bP fq.swo fq.tot
   (fun f hf => Option.some.inj (hf.symm.trans (show TryzTbl.lookup 630 = some 60 by kernel_rfl))) Tryz.sortN_none
   (fun g cb blk off cap d w eg hcmp hH hb hs => Tryz.sortN_eq 2 Tryz.isAgg54 Tryz.sizeOf54 Tryz.encF (fun _ => rfl) (fun x v hv => by
    simp only [Tryz.encF, List.mem_cons, List.not_mem_nil, or_false] at hv
    rcases hv with rfl | rfl <;> rfl) bP fq.swo g cb blk off cap d w eg hcmp hH hb hs)
   (fun f hf => by
    obtain rfl : f = 61 := Option.some.inj (hf.symm.trans (show TryzTbl.lookup 631 = some 61 by kernel_rfl))
    kernel_rfl) hcl L hl
theorem Tryz.sh29 : pB Tryz.prog 10 29 = some shMsh := by kernel_rfl
theorem Tryz.sh25 : pB Tryz.prog 10 25 = some shNet := by kernel_rfl
theorem Tryz.itoa (n : Nat) (hn : n < 100) : fL Tryz.prog ⟨Tryz.prog, fun g => TryzTbl.lookup g, fun t => (TryzTys.lookup t).getD 0⟩ 127 [.int .i64 n] (.str (Lib.decDigits n)) [] := by
 refine sj fun f hf M w vs r => ?_
 have e : f = 114 := Option.some.inj (hf.symm.trans (show TryzTbl.lookup 127 = some 114 from rfl))
 subst e
 simp only [au, af] at r
 obtain ⟨v, r', rfl, rfl, rfl⟩ := r
 exact ⟨.string ⟨(Lib.decDigits n).toArray⟩, by simp only [af], Tryz.strconv_Itoa_small n hn w⟩

/-- The door's own heap meets the condition. -/
theorem Tryz.met (os : Os) (args : Array Value) : laidMetH Tryz.prog Rows.checkerGroundRow.laid ((World.doorLaid Tryz.prog 24 os).forCall (fun _ _ => 0) ⟨#[], args, []⟩).memory :=
 laidMetH_of_parts3 (fuel := 8) (laidMet_of_run' 8 (by kernel_rfl) (by kernel_rfl)) (by kernel_rfl) (by kernel_rfl)

set_option maxRecDepth 100000 in
theorem checkerGround_lifted (os : Os) (started : os.Started) (H : Type) (enc : TypeId × Value -> H) :
  ReturnsInHanded {} Tryz.checked os 3 .any (fun w args => (Rows.checkerGroundSpec.pre enc Tryz.prog Tryz.f3 [] false w args /\ laidMetH Tryz.prog Rows.checkerGroundRow.laid w) /\ sizedMet enc Tryz.prog Tryz.f3 (OpenSpec.ofChange Rows.checkerGroundSpec) false w args) (Rows.checkerGroundSpec.post enc Tryz.prog Tryz.f3 false true false false) := by
 refine returnsInHanded_of_change_and (C := Tryz.checked) (X := fun w _ => laidMetH Tryz.prog Rows.checkerGroundRow.laid w) (fun _ _ _ hh h => h.of_heap hh) Tryz.own started (by kernel_rfl) Tryz.func3
  (ChangeSpec.witness_shaped (enc := enc) (C := Tryz.checked) (os := os) (X := fun w _ => laidMetH Tryz.prog Rows.checkerGroundRow.laid w) false (World.doorLaid Tryz.prog 24 os) #[.agg #[.slice none 0 0, .slice none 0 0], .agg #[.slice none 0 0, .slice none 0 0], .int .i64 0] 8 rfl (World.shaped_of_RefB (by kernel_rfl) (by kernel_rfl)) (by kernel_rfl) (by kernel_rfl) (by kernel_rfl) (Tryz.met os _)) ?_
 intro W base args ds gs before hval0 hW _ hsz0 _ _
 have hsz : (DataW.weightsEach Tryz.prog (Tryz.f3.params.toList ++ Rows.checkerGroundSpec.plain.varTypes Tryz.prog) (ds ++ gs)).all (· <= reachBytes) = true := hsz0
 clear hsz0
 have hval : ∀ (j : Nat) t v, Tryz.f3.params[j]? = some t -> args[j]? = some v -> Value.okWide Tryz.prog W .any base t v := hval0
 have hW' := hW
 obtain ⟨p, q, hA0, hV, rfl, hfz, hnd⟩ := hW
 have hA : DataW.TrodAll enc Tryz.prog W 0 (fun _ => true) true Tryz.f3.params.toList args.toList ds p := hA0
 rw [Tryz.params3] at hA hval hsz
 obtain ⟨v0, v1, v2, d0, d1, d2, p0, p1, p2, rfl, rfl, rfl, h0, h1, h2⟩ := trodAll_args hA
 obtain ⟨rfl, rfl⟩ := trodVars_none hV
 clear hA0 hval0
 simp only [List.append_nil] at hW'
 simp only [DataW.weightsEach, List.cons_append, List.nil_append, List.all_append, Bool.and_eq_true] at hsz
 have hlt : ∀ x ∈ p0 ++ (p1 ++ (p2)), x.block < W.heap.size := fun x hx => by simpa using hW'.lt x (by simpa using hx)
 obtain ⟨c0, s0, r0⟩ := mC (F := ⟨Tryz.prog, fun g => TryzTbl.lookup g, fun t => (TryzTys.lookup t).getD 0⟩) Tryz.underlying25 Tryz.sh25 (hval 0 25 v0 rfl rfl) h0 hsz.1
 obtain ⟨b0, b0', ns0, ls0, rfl, g0, g0', g0''⟩ := has_net s0
 obtain ⟨c1, s1, r1⟩ := mC (F := ⟨Tryz.prog, fun g => TryzTbl.lookup g, fun t => (TryzTys.lookup t).getD 0⟩) Tryz.underlying29 Tryz.sh29 (hval 1 29 v1 rfl rfl) h1 hsz.2.1
 obtain ⟨m1, rfl⟩ := has_msh s1
 obtain ⟨n2, w2, r2⟩ := yT (F := ⟨Tryz.prog, fun g => TryzTbl.lookup g, fun t => (TryzTys.lookup t).getD 0⟩) Tryz.underlying3 (hval 2 3 v2 rfl rfl) h2
 have hrun := (lS Tryz.seat.2 Tryz.slc Tryz.chk Lib.decDigits Tryz.itoa b0 b0' ns0 ls0 g0 g0' g0'' m1 n2).2 3 rfl
 have hargs0 : ∀ (W' : World), Below W.heap.size W W' -> DataW.Trod enc Tryz.prog W' 0 (fun b => decide (b < W.heap.size)) true 25 v0 d0 p0 :=
  fun W' hn => Below.trod Tryz.laidOut (by kernel_rfl) (of_decide_eq_true (by kernel_rfl)) h0 hn (fun x hx => hlt x (by simp [hx]))
 have hargs1 : ∀ (W' : World), Below W.heap.size W W' -> DataW.Trod enc Tryz.prog W' 0 (fun b => decide (b < W.heap.size)) true 29 v1 d1 p1 :=
  fun W' hn => Below.trod Tryz.laidOut (by kernel_rfl) (of_decide_eq_true (by kernel_rfl)) h1 hn (fun x hx => hlt x (by simp [hx]))
 have hargs2 : ∀ (W' : World), Below W.heap.size W W' -> DataW.Trod enc Tryz.prog W' 0 (fun b => decide (b < W.heap.size)) true 3 v2 d2 p2 :=
  fun W' hn => Below.trod Tryz.laidOut (by kernel_rfl) (of_decide_eq_true (by kernel_rfl)) h2 hn (fun x hx => hlt x (by simp [hx]))
 have hcall := hrun (nR W) W [v0, v1, v2] (fun p v h => h) (by simp only [au]; exact ⟨v0, _, rfl, r0, v1, _, rfl, r1, v2, _, rfl, r2, rfl⟩)
 refine hcall.mono fun e W' ⟨v, M', he, hn0, _, _, _, hv⟩ => ?_
 have hn := hn0.below
 simp only [af] at hv
 subst hv
 refine ⟨_, he, _, _, _, [], p0 ++ (p1 ++ (p2)), [], hW', trodAll_mk1 (shut_bool Tryz.underlying4 _), ⟨p0, _, hargs0 _ hn, ⟨p1, _, hargs1 _ hn, trodAll_mk1 (hargs2 _ hn), rfl⟩, rfl⟩, rfl, hn.frame _, fun h => by cases h⟩

theorem checkerGround_row : Rows.CheckerGroundSaid :=
 OpenClaim.holds_of_wide 3 Tryz.f3 rfl rfl rfl rfl rfl rfl rfl ⟨rfl, rfl, rfl, rfl, rfl⟩ rfl rfl rfl rfl rfl (by kernel_rfl) Tryz.func3 (by kernel_rfl)
  (of_decide_eq_true (by kernel_rfl)) (by unfold Func.isWrapper; first | (rw [if_pos (by decide +kernel)]; kernel_rfl) | (rw [if_neg (by decide +kernel)]; exact ⟨rfl, rfl⟩))
  (fun os started H enc _ => checkerGround_lifted os started H enc)
theorem checkerGround_holds : Rows.CheckerGroundCardSaid :=
 Claim7.holds_tied_plain_at .later [] [.data, .data, .data] true (true, "b6a48ebd6ae2bf737b0b706ea78913f70d45e1644fa0206443885256b9e52cc7") false
  checkerGround_row (fun _ h => by cases h) (by kernel_rfl) (fun _ h => by cases h) checkerGround_row_tie rfl ⟨rfl, rfl⟩ (by kernel_rfl) rfl
  (fun f fn hf hfn => by
   obtain rfl : f = 3 := Option.some.inj ((show Tryz.prog.funcNamed "sewershed/sewershedlaw27.CheckerGround" = some 3 by kernel_rfl).symm.trans hf) |>.symm
   obtain rfl : fn = Tryz.f3 := (Option.some.inj (Tryz.func3.symm.trans hfn)).symm
   exact ⟨by kernel_rfl, fun j t ht => by
    rw [Tryz.params3] at ht
    have h3 : t = 25 \/ t = 29 \/ t = 3 := by
     rcases j with _ | _ | _ | j
     ·left; simpa using ht.symm
     ·right; left; simpa using ht.symm
     ·right; right; simpa using ht.symm
     ·simp at ht
    rcases h3 with rfl | rfl | rfl
    ·exact (show Tryz.prog.wantsStandIn 25 = false by kernel_rfl)
    ·exact (show Tryz.prog.wantsStandIn 29 = false by kernel_rfl)
    ·exact (show Tryz.prog.wantsStandIn 3 = false by kernel_rfl)⟩)
  (by kernel_rfl)
#print axioms checkerGround_holds
end Go.Proofs.YtmlfecgljehphaaGreatDoor
