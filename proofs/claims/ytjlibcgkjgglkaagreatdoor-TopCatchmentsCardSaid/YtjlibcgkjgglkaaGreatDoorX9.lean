/-
 THE LAW TopCatchments HOLDS: for every input it returns true, and each argument reads afterwards as it read before; the tables of the library that the row lists are tied to the program's text. No conditions of ours.
-/
import Derived.Test.YtjlibcgkjgglkaaGreatDoorCards
import Derived.Test.YtjlibcgkjgglkaaGreatDoorTie
import Derived.SevenTiedAt
import Derived.ProofKit
import Derived.LaidMore
import Derived.OpenShut
import Derived.Stop.Joined
import Derived.Test.YtjlibcgkjgglkaaGreatDoorX6
import Derived.Test.YtjlibcgkjgglkaaGreatDoorX8
set_option linter.all false
namespace Go.Gv
def shSpt : List Sh := [.int .i64, .int .i64, .int .i64]
def shFce : List Sh := [.int .i64, .int .i64, .int .i64, .int .i64]
def shPt : List Sh := [.int .i64, .int .i64]
theorem sl_spt {d : D} (h : dX (.sl shSpt) d) : ∃ (b : Bool) (l : List Spt), d = slx b (l.map ol) := by
 simp only [dX] at h
 obtain ⟨es, h1, h2, h3⟩ := h
 obtain ⟨xs, rfl⟩ := jg (f := ol) (fun e he => by
  have := h3 e he
  simp only [shSpt, bR, dX] at this
  obtain ⟨_, _, rfl, ⟨n1, rfl, _⟩, _, _, rfl, ⟨n2, rfl, _⟩, _, _, rfl, ⟨n3, rfl, _⟩, rfl⟩ := this
  exact ⟨⟨n1, n2, n3⟩, rfl⟩)
 rcases h1 with rfl | ⟨rfl, h1⟩
 ·exact ⟨false, xs, by simp⟩
 ·simp at h1
  subst h1
  exact ⟨true, [], rfl⟩
theorem sl_fce {d : D} (h : dX (.sl shFce) d) : ∃ (b : Bool) (l : List Fce), d = slx b (l.map cu) := by
 simp only [dX] at h
 obtain ⟨es, h1, h2, h3⟩ := h
 obtain ⟨xs, rfl⟩ := jg (f := cu) (fun e he => by
  have := h3 e he
  simp only [shFce, bR, dX] at this
  obtain ⟨_, _, rfl, ⟨n1, rfl, _⟩, _, _, rfl, ⟨n2, rfl, _⟩, _, _, rfl, ⟨n3, rfl, _⟩, _, _, rfl, ⟨n4, rfl, _⟩, rfl⟩ := this
  exact ⟨⟨n1, n2, n3, n4⟩, rfl⟩)
 rcases h1 with rfl | ⟨rfl, h1⟩
 ·exact ⟨false, xs, by simp⟩
 ·simp at h1
  subst h1
  exact ⟨true, [], rfl⟩
theorem sl_pnt {d : D} (h : dX (.sl shPt) d) : ∃ (b : Bool) (l : List Pnt), d = slx b (l.map fun x => ptD x) /\ l.length < 2 ^ 62 := by
 simp only [dX] at h
 obtain ⟨es, h1, h2, h3⟩ := h
 obtain ⟨xs, rfl⟩ := jg (f := fun x => ptD x) (fun e he => by
  have := h3 e he
  simp only [shPt, bR, dX] at this
  obtain ⟨_, _, rfl, ⟨n1, rfl, _⟩, _, _, rfl, ⟨n2, rfl, _⟩, rfl⟩ := this
  exact ⟨(n1, n2), rfl⟩)
 have hl : xs.length < 2 ^ 62 := by rw [List.length_map] at h2; omega
 rcases h1 with rfl | ⟨rfl, h1⟩
 ·exact ⟨false, xs, by simp, hl⟩
 ·simp at h1
  subst h1
  exact ⟨true, [], rfl, by simp⟩
def shMsh : List Sh := [.sl shSpt, .sl shFce]
theorem has_msh {ds : List D} (h : bR shMsh ds) : ∃ m : Msh, ds = b0 m := by
 simp only [shMsh, bR] at h
 obtain ⟨d1, r1, rfl, g1, d2, r2, rfl, g2, rfl⟩ := h
 obtain ⟨b1, l1, rfl⟩ := sl_spt g1
 obtain ⟨b2, l2, rfl⟩ := sl_fce g2
 exact ⟨⟨b1, l1, b2, l2⟩, rfl⟩
theorem sl_ints {d : D} (h : dX (.sl [.int .i64]) d) : ∃ (b : Bool) (l : List Int), d = slx b (l.map fun n => [.int .i64 n]) /\ l.length < 2 ^ 62 := by
 simp only [dX] at h
 obtain ⟨es, h1, h2, h3⟩ := h
 obtain ⟨xs, rfl⟩ := jg (f := fun n : Int => [D.int .i64 n]) (fun e he => by
  have := h3 e he
  simp only [bR, dX] at this
  obtain ⟨d, r, rfl, ⟨n, rfl, _⟩, rfl⟩ := this
  exact ⟨n, rfl⟩)
 have hl : xs.length < 2 ^ 62 := by rw [List.length_map] at h2; omega
 rcases h1 with rfl | ⟨rfl, h1⟩
 ·exact ⟨false, xs, by simp, hl⟩
 ·simp at h1
  subst h1
  exact ⟨true, [], rfl, by simp⟩
def shGgt : List Sh := [.str, .int .i64, .int .i64]
def shSrs : List Sh := [.int .i64, .int .i64, .sl [.int .i64]]
theorem sl_ggt {d : D} (h : dX (.sl shGgt) d) : ∃ (b : Bool) (l : List Ggt), d = slx b (l.map ggC) /\ l.length < 2 ^ 62 := by
 simp only [dX] at h
 obtain ⟨es, h1, h2, h3⟩ := h
 obtain ⟨xs, rfl⟩ := jg (f := ggC) (fun e he => by
  have := h3 e he
  simp only [shGgt, bR, dX] at this
  obtain ⟨_, _, rfl, ⟨s1, rfl, _⟩, _, _, rfl, ⟨n1, rfl, _⟩, _, _, rfl, ⟨n2, rfl, _⟩, rfl⟩ := this
  exact ⟨⟨s1, (n1, n2)⟩, rfl⟩)
 have hl : xs.length < 2 ^ 62 := by rw [List.length_map] at h2; omega
 rcases h1 with rfl | ⟨rfl, h1⟩
 ·exact ⟨false, xs, by simp, hl⟩
 ·simp at h1
  subst h1
  exact ⟨true, [], rfl, by simp⟩
theorem has_srs {ds : List D} (h : bR shSrs ds) : ∃ s : Srs, ds = srC s := by
 simp only [shSrs, bR] at h
 obtain ⟨d1, r1, rfl, g1, d2, r2, rfl, g2, d3, r3, rfl, g3, rfl⟩ := h
 simp only [dX] at g1 g2
 obtain ⟨n1, rfl, _⟩ := g1
 obtain ⟨n2, rfl, _⟩ := g2
 obtain ⟨b, l, rfl, _⟩ := sl_ints g3
 exact ⟨⟨n1, n2, b, l⟩, rfl⟩
theorem has_pnt {ds : List D} (h : bR shPt ds) : ∃ p : Pnt, ds = ptD p := by
 simp only [shPt, bR, dX] at h
 obtain ⟨d1, r1, rfl, ⟨n1, rfl, _⟩, d2, r2, rfl, ⟨n2, rfl, _⟩, rfl⟩ := h
 exact ⟨(n1, n2), rfl⟩
section
open Go.ChangeShapes
variable {H : Type} {enc : TypeId × Value -> H} {P : Program} {w : World} {base : Nat} {spare : Nat -> Bool} {held : Bool}
theorem trodAll_args {t0 t1 t2 t3 : TypeId} {args : Array Value} {ds : List (DataW H)} {ps : List MemPlace} (h : DataW.TrodAll enc P w base spare held [t0, t1, t2, t3] args.toList ds ps) :
  ∃ v0 v1 v2 v3 d0 d1 d2 d3 p0 p1 p2 p3, args = #[v0, v1, v2, v3] /\ ds = [d0, d1, d2, d3] /\ ps = p0 ++ (p1 ++ (p2 ++ (p3))) /\ DataW.Trod enc P w base spare held t0 v0 d0 p0 /\ DataW.Trod enc P w base spare held t1 v1 d1 p1 /\ DataW.Trod enc P w base spare held t2 v2 d2 p2 /\ DataW.Trod enc P w base spare held t3 v3 d3 p3 := by
 obtain ⟨v0, vs0, d0, ds0, p0, q0, hargs, rfl, rfl, h0, h⟩ := trodAll_cons h
 obtain ⟨v1, vs1, d1, ds1, p1, q1, rfl, rfl, rfl, h1, h⟩ := trodAll_cons h
 obtain ⟨v2, vs2, d2, ds2, p2, q2, rfl, rfl, rfl, h2, h⟩ := trodAll_cons h
 obtain ⟨v3, vs3, d3, ds3, p3, q3, rfl, rfl, rfl, h3, h⟩ := trodAll_cons h
 obtain ⟨rfl, rfl, rfl⟩ := trodAll_nil h
 exact ⟨v0, v1, v2, v3, d0, d1, d2, d3, p0, p1, p2, p3, by cases args; simp_all, rfl, by simp, h0, h1, h2, h3⟩
end
end Go.Gv
namespace Go.Proofs.YtjlibcgkjgglkaaGreatDoor
open Go.ChangeShapes Go.WideShapes Go.ChangeAt Go.RowKit Go.Gv

theorem Tryz.own : ownKnob Tryz.prog.godebug = none := by kernel_rfl
theorem Tryz.laidOut : laidOutB Tryz.prog = true := by kernel_rfl
theorem Tryz.seat : bC Tryz.prog ⟨Tryz.prog, fun g => TryzTbl.lookup g, fun t => (TryzTys.lookup t).getD 0, fun _ => .nilIface⟩ (ee Tryz.prog ⟨Tryz.prog, fun g => TryzTbl.lookup g, fun t => (TryzTys.lookup t).getD 0, fun _ => .nilIface⟩) /\ av prog (ee Tryz.prog ⟨Tryz.prog, fun g => TryzTbl.lookup g, fun t => (TryzTys.lookup t).getD 0, fun _ => .nilIface⟩) :=
 Go.Gv.seat (by kernel_rfl) Tryz.laidOut Tryz_all
theorem Tryz.seatD : io prog bH (ee Tryz.prog ⟨Tryz.prog, fun g => TryzTbl.lookup g, fun t => (TryzTys.lookup t).getD 0, fun _ => .nilIface⟩) :=
 Go.Gv.seatD (by kernel_rfl) Tryz.laidOut Tryz_all Tryz_allD
theorem Tryz.sh27 : mJ Tryz.prog 10 27 = some [.sl shGgt] := by kernel_rfl
theorem Tryz.sh26 : mJ Tryz.prog 10 26 = some [.sl [.int .i64]] := by kernel_rfl
theorem Tryz.sh25 : mJ Tryz.prog 10 25 = some shMsh := by kernel_rfl
theorem Tryz.sh29 : mJ Tryz.prog 10 29 = some shSrs := by kernel_rfl
theorem Tryz.itoa (n : Nat) (hn : n < 100) : ee Tryz.prog ⟨Tryz.prog, fun g => TryzTbl.lookup g, fun t => (TryzTys.lookup t).getD 0, fun _ => .nilIface⟩ 127 [.int .i64 n] (.str (Lib.decDigits n)) [] := by
 refine tV fun f hf M w vs r => ?_
 have e : f = 96 := Option.some.inj (hf.symm.trans (show TryzTbl.lookup 127 = some 96 from rfl))
 subst e
 simp only [aA, ae] at r
 obtain ⟨v, r', rfl, rfl, rfl⟩ := r
 exact ⟨.string ⟨(Lib.decDigits n).toArray⟩, by simp only [ae], Tryz.strconv_Itoa_small n hn w⟩

set_option maxRecDepth 100000 in
theorem Tryz.slw : SlW (ee Tryz.prog ⟨Tryz.prog, fun g => TryzTbl.lookup g, fun t => (TryzTys.lookup t).getD 0, fun _ => .nilIface⟩) where
 sort zs h := oe Tryz.lays189 (fun f hf => Option.some.inj (hf.symm.trans (show TryzTbl.lookup 366 = some (Tryz.lays189_ren.f 189) by kernel_rfl))) zs h
 compact zs h := oL Tryz.laysNm220 (fun f hf => Option.some.inj (hf.symm.trans (show TryzTbl.lookup 523 = some (Tryz.laysNm220_ren.f 20) by kernel_rfl))) zs h

/-- The door's own heap meets the condition. -/
theorem Tryz.met (os : Os) (args : Array Value) : laidMetH Tryz.prog Rows.topCatchmentsRow.laid ((World.doorLaid Tryz.prog 24 os).forCall (fun _ _ => 0) ⟨#[], args, []⟩).memory :=
 laidMetH_of_parts3 (fuel := 8) (laidMet_of_run' 8 (by kernel_rfl) (by kernel_rfl)) (by kernel_rfl) (by kernel_rfl)

set_option maxRecDepth 100000 in
theorem topCatchments_lifted (os : Os) (started : os.Started) (H : Type) (enc : TypeId × Value -> H) :
  ReturnsInHanded {} Tryz.checked os 3 .any (fun w args => (Rows.topCatchmentsSpec.pre enc Tryz.prog Tryz.f3 [] false w args /\ laidMetH Tryz.prog Rows.topCatchmentsRow.laid w) /\ sizedMet enc Tryz.prog Tryz.f3 (OpenSpec.ofChange Rows.topCatchmentsSpec) false w args) (Rows.topCatchmentsSpec.post enc Tryz.prog Tryz.f3 false true false false) := by
 refine returnsInHanded_of_change_and (C := Tryz.checked) (X := fun w _ => laidMetH Tryz.prog Rows.topCatchmentsRow.laid w) (fun _ _ _ hh h => h.of_heap hh) Tryz.own started (by kernel_rfl) Tryz.func3
  (ChangeSpec.witness_shaped (enc := enc) (C := Tryz.checked) (os := os) (X := fun w _ => laidMetH Tryz.prog Rows.topCatchmentsRow.laid w) false (World.doorLaid Tryz.prog 24 os) #[.agg #[.slice none 0 0, .slice none 0 0], .slice none 0 0, .slice none 0 0, .agg #[.int .i64 0, .int .i64 0, .slice none 0 0]] 8 rfl (World.shaped_of_RefB (by kernel_rfl) (by kernel_rfl)) (by kernel_rfl) (by kernel_rfl) (by kernel_rfl) (Tryz.met os _)) ?_
 intro W base args ds gs before hval0 hW _ hsz0 _ _
 have hsz : (DataW.weightsEach Tryz.prog (Tryz.f3.params.toList ++ Rows.topCatchmentsSpec.plain.varTypes Tryz.prog) (ds ++ gs)).all (· <= reachBytes) = true := hsz0
 clear hsz0
 have hval : ∀ (j : Nat) t v, Tryz.f3.params[j]? = some t -> args[j]? = some v -> Value.okWide Tryz.prog W .any base t v := hval0
 have hW' := hW
 obtain ⟨p, q, hA0, hV, rfl, hfz, hnd⟩ := hW
 have hA : DataW.TrodAll enc Tryz.prog W 0 (fun _ => true) true Tryz.f3.params.toList args.toList ds p := hA0
 rw [Tryz.params3] at hA hval hsz
 obtain ⟨v0, v1, v2, v3, d0, d1, d2, d3, p0, p1, p2, p3, rfl, rfl, rfl, h0, h1, h2, h3⟩ := trodAll_args hA
 obtain ⟨rfl, rfl⟩ := trodVars_none hV
 clear hA0 hval0
 simp only [List.append_nil] at hW'
 simp only [DataW.weightsEach, List.cons_append, List.nil_append, List.all_append, Bool.and_eq_true] at hsz
 have hlt : ∀ x ∈ p0 ++ (p1 ++ (p2 ++ (p3))), x.block < W.heap.size := fun x hx => by simpa using hW'.lt x (by simpa using hx)
 obtain ⟨c0, s0, r0⟩ := na (F := ⟨Tryz.prog, fun g => TryzTbl.lookup g, fun t => (TryzTys.lookup t).getD 0, fun _ => .nilIface⟩) Tryz.underlying25 Tryz.sh25 (hval 0 25 v0 rfl rfl) h0 hsz.1
 obtain ⟨m0, rfl⟩ := has_msh s0
 obtain ⟨c1, s1, r1⟩ := oQ (F := ⟨Tryz.prog, fun g => TryzTbl.lookup g, fun t => (TryzTys.lookup t).getD 0, fun _ => .nilIface⟩) Tryz.underlying26 Tryz.sh26 (hval 1 26 v1 rfl rfl) h1 hsz.2.1
 obtain ⟨b1, l1, rfl, hl1⟩ := sl_ints s1
 obtain ⟨c2, s2, r2⟩ := oQ (F := ⟨Tryz.prog, fun g => TryzTbl.lookup g, fun t => (TryzTys.lookup t).getD 0, fun _ => .nilIface⟩) Tryz.underlying27 Tryz.sh27 (hval 2 27 v2 rfl rfl) h2 hsz.2.2.1
 obtain ⟨b2, l2, rfl, hl2⟩ := sl_ggt s2
 obtain ⟨c3, s3, r3⟩ := na (F := ⟨Tryz.prog, fun g => TryzTbl.lookup g, fun t => (TryzTys.lookup t).getD 0, fun _ => .nilIface⟩) Tryz.underlying29 Tryz.sh29 (hval 3 29 v3 rfl rfl) h3 hsz.2.2.2.1
 obtain ⟨m3, rfl⟩ := has_srs s3
 have hrun := (mD Tryz.seat.2 Tryz.seatD Tryz.slw Lib.decDigits Tryz.itoa m0 b1 l1 b2 l2 hl2 m3).2 3 rfl
 have hargs0 : ∀ (W' : World), Below W.heap.size W W' -> DataW.Trod enc Tryz.prog W' 0 (fun b => decide (b < W.heap.size)) true 25 v0 d0 p0 :=
  fun W' hn => Below.trod Tryz.laidOut (by kernel_rfl) (of_decide_eq_true (by kernel_rfl)) h0 hn (fun x hx => hlt x (by simp [hx]))
 have hargs1 : ∀ (W' : World), Below W.heap.size W W' -> DataW.Trod enc Tryz.prog W' 0 (fun b => decide (b < W.heap.size)) true 26 v1 d1 p1 :=
  fun W' hn => Below.trod Tryz.laidOut (by kernel_rfl) (of_decide_eq_true (by kernel_rfl)) h1 hn (fun x hx => hlt x (by simp [hx]))
 have hargs2 : ∀ (W' : World), Below W.heap.size W W' -> DataW.Trod enc Tryz.prog W' 0 (fun b => decide (b < W.heap.size)) true 27 v2 d2 p2 :=
  fun W' hn => Below.trod Tryz.laidOut (by kernel_rfl) (of_decide_eq_true (by kernel_rfl)) h2 hn (fun x hx => hlt x (by simp [hx]))
 have hargs3 : ∀ (W' : World), Below W.heap.size W W' -> DataW.Trod enc Tryz.prog W' 0 (fun b => decide (b < W.heap.size)) true 29 v3 d3 p3 :=
  fun W' hn => Below.trod Tryz.laidOut (by kernel_rfl) (of_decide_eq_true (by kernel_rfl)) h3 hn (fun x hx => hlt x (by simp [hx]))
 have hcall := hrun (oR W) W [v0, v1, v2, v3] (fun p v h => h) (by simp only [aA]; exact ⟨v0, _, rfl, r0, v1, _, rfl, r1, v2, _, rfl, r2, v3, _, rfl, r3, rfl⟩)
 refine hcall.mono fun e W' ⟨v, M', he, hn0, _, _, _, hv⟩ => ?_
 have hn := hn0.below
 simp only [ae] at hv
 subst hv
 refine ⟨_, he, _, _, _, [], p0 ++ (p1 ++ (p2 ++ (p3))), [], hW', trodAll_mk1 (shut_bool Tryz.underlying4 _), ⟨p0, _, hargs0 _ hn, ⟨p1, _, hargs1 _ hn, ⟨p2, _, hargs2 _ hn, trodAll_mk1 (hargs3 _ hn), rfl⟩, rfl⟩, rfl⟩, rfl, hn.frame _, fun h => by cases h⟩

theorem topCatchments_row : Rows.TopCatchmentsSaid :=
 OpenClaim.holds_of_wide 3 Tryz.f3 rfl rfl rfl rfl rfl rfl rfl ⟨rfl, rfl, rfl, rfl, rfl⟩ rfl rfl rfl rfl rfl (by kernel_rfl) Tryz.func3 (by kernel_rfl)
  (of_decide_eq_true (by kernel_rfl)) (by unfold Func.isWrapper; first | (rw [if_pos (by decide +kernel)]; kernel_rfl) | (rw [if_neg (by decide +kernel)]; exact ⟨rfl, rfl⟩))
  (fun os started H enc _ => topCatchments_lifted os started H enc)
theorem topCatchments_holds : Rows.TopCatchmentsCardSaid :=
 Claim7.holds_tied_plain_at .later [] [.data, .data, .data] true (true, "b6ba2c70f8d9270ff71a165b3cd85ee04982434b784fcc4b2813577c8ed820a0") true
  topCatchments_row (fun _ h => by cases h) (by kernel_rfl) (fun _ h => by cases h) topCatchments_row_tie rfl ⟨rfl, rfl⟩ (by kernel_rfl) rfl
  (fun f fn hf hfn => by
   obtain rfl : f = 3 := Option.some.inj ((show Tryz.prog.funcNamed "sewershed/sewershedtop.TopCatchments" = some 3 by kernel_rfl).symm.trans hf) |>.symm
   obtain rfl : fn = Tryz.f3 := (Option.some.inj (Tryz.func3.symm.trans hfn)).symm
   exact ⟨by kernel_rfl, fun j t ht => by
    rw [Tryz.params3] at ht
    have h3 : t = 25 \/ t = 26 \/ t = 27 \/ t = 29 := by
     rcases j with _ | _ | _ | _ | j
     ·left; simpa using ht.symm
     ·right; left; simpa using ht.symm
     ·right; right; left; simpa using ht.symm
     ·right; right; right; simpa using ht.symm
     ·simp at ht
    rcases h3 with rfl | rfl | rfl | rfl
    ·exact (show Tryz.prog.wantsStandIn 25 = false by kernel_rfl)
    ·exact (show Tryz.prog.wantsStandIn 26 = false by kernel_rfl)
    ·exact (show Tryz.prog.wantsStandIn 27 = false by kernel_rfl)
    ·exact (show Tryz.prog.wantsStandIn 29 = false by kernel_rfl)⟩)
  (by kernel_rfl)
#print axioms topCatchments_holds
end Go.Proofs.YtjlibcgkjgglkaaGreatDoor
