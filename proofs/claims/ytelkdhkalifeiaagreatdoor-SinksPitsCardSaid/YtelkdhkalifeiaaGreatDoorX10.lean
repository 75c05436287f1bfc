/-
 THE LAW SinksPits HOLDS: for every input it returns true, and each argument reads afterwards as it read before; the tables of the library that the row lists are tied to the program's text. No conditions of ours.
-/
import Derived.Test.YtelkdhkalifeiaaGreatDoorCards
import Derived.Test.YtelkdhkalifeiaaGreatDoorTie
import Derived.SevenTiedAt
import Derived.ProofKit
import Derived.LaidMore
import Derived.OpenShut
import Derived.Stop.Joined
import Derived.Test.YtelkdhkalifeiaaGreatDoorX6
import Derived.Test.YtelkdhkalifeiaaGreatDoorX8
import Derived.Test.YtelkdhkalifeiaaGreatDoorX9
set_option linter.all false
namespace Go.Gv
def shSpt : List Sh := [.int .i64, .int .i64, .int .i64]
def shFce : List Sh := [.int .i64, .int .i64, .int .i64, .int .i64]
def shPt : List Sh := [.int .i64, .int .i64]
theorem sl_spt {d : D} (h : iz (.sl shSpt) d) : ∃ (b : Bool) (l : List Spt), d = slx b (l.map fY) := by
 simp only [iz] at h
 obtain ⟨es, h1, h2, h3⟩ := h
 obtain ⟨xs, rfl⟩ := nJ (f := fY) (fun e he => by
  have := h3 e he
  simp only [shSpt, ci, iz] at this
  obtain ⟨_, _, rfl, ⟨n1, rfl, _⟩, _, _, rfl, ⟨n2, rfl, _⟩, _, _, rfl, ⟨n3, rfl, _⟩, rfl⟩ := this
  exact ⟨⟨n1, n2, n3⟩, rfl⟩)
 rcases h1 with rfl | ⟨rfl, h1⟩
 ·exact ⟨false, xs, by simp⟩
 ·simp at h1
  subst h1
  exact ⟨true, [], rfl⟩
theorem sl_fce {d : D} (h : iz (.sl shFce) d) : ∃ (b : Bool) (l : List Fce), d = slx b (l.map br) := by
 simp only [iz] at h
 obtain ⟨es, h1, h2, h3⟩ := h
 obtain ⟨xs, rfl⟩ := nJ (f := br) (fun e he => by
  have := h3 e he
  simp only [shFce, ci, iz] at this
  obtain ⟨_, _, rfl, ⟨n1, rfl, _⟩, _, _, rfl, ⟨n2, rfl, _⟩, _, _, rfl, ⟨n3, rfl, _⟩, _, _, rfl, ⟨n4, rfl, _⟩, rfl⟩ := this
  exact ⟨⟨n1, n2, n3, n4⟩, rfl⟩)
 rcases h1 with rfl | ⟨rfl, h1⟩
 ·exact ⟨false, xs, by simp⟩
 ·simp at h1
  subst h1
  exact ⟨true, [], rfl⟩
theorem sl_pnt {d : D} (h : iz (.sl shPt) d) : ∃ (b : Bool) (l : List Pnt), d = slx b (l.map fun x => ptD x) /\ l.length < 2 ^ 62 := by
 simp only [iz] at h
 obtain ⟨es, h1, h2, h3⟩ := h
 obtain ⟨xs, rfl⟩ := nJ (f := fun x => ptD x) (fun e he => by
  have := h3 e he
  simp only [shPt, ci, iz] at this
  obtain ⟨_, _, rfl, ⟨n1, rfl, _⟩, _, _, rfl, ⟨n2, rfl, _⟩, rfl⟩ := this
  exact ⟨(n1, n2), rfl⟩)
 have hl : xs.length < 2 ^ 62 := by rw [List.length_map] at h2; omega
 rcases h1 with rfl | ⟨rfl, h1⟩
 ·exact ⟨false, xs, by simp, hl⟩
 ·simp at h1
  subst h1
  exact ⟨true, [], rfl, by simp⟩
def shMsh : List Sh := [.sl shSpt, .sl shFce]
theorem has_msh {ds : List D} (h : ci shMsh ds) : ∃ m : Msh, ds = a6 m := by
 simp only [shMsh, ci] at h
 obtain ⟨d1, r1, rfl, g1, d2, r2, rfl, g2, rfl⟩ := h
 obtain ⟨b1, l1, rfl⟩ := sl_spt g1
 obtain ⟨b2, l2, rfl⟩ := sl_fce g2
 exact ⟨⟨b1, l1, b2, l2⟩, rfl⟩
theorem has_pnt {ds : List D} (h : ci shPt ds) : ∃ p : Pnt, ds = ptD p := by
 simp only [shPt, ci, iz] at h
 obtain ⟨d1, r1, rfl, ⟨n1, rfl, _⟩, d2, r2, rfl, ⟨n2, rfl, _⟩, rfl⟩ := h
 exact ⟨(n1, n2), rfl⟩
section
open Go.ChangeShapes
variable {H : Type} {enc : TypeId × Value -> H} {P : Program} {w : World} {base : Nat} {spare : Nat -> Bool} {held : Bool}
theorem trodAll_args {t0 t1 t2 t3 : TypeId} {args : Array Value} {ds : List (DataW H)} {ps : List MemPlace} (h : DataW.TrodAll enc P w base spare held [t0, t1, t2, t3] args.toList ds ps) :
  ∃ v0 v1 v2 v3 d0 d1 d2 d3 p0 p1 p2 p3, args = #[v0, v1, v2, v3] /\ ds = [d0, d1, d2, d3] /\ ps = p0 ++ (p1 ++ (p2 ++ (p3))) /\ DataW.Trod enc P w base spare held t0 v0 d0 p0 /\ DataW.Trod enc P w base spare held t1 v1 d1 p1 /\ DataW.Trod enc P w base spare held t2 v2 d2 p2 /\ DataW.Trod enc P w base spare held t3 v3 d3 p3 := by
 obtain ⟨v0, vs0, d0, ds0, p0, q0, hargs, rfl, rfl, h0, h⟩ := trodAll_cons h
 obtain ⟨v1, vs1, d1, ds1, p1, q1, rfl, rfl, rfl, h1, h⟩ := trodAll_cons h
 obtain ⟨v2, vs2, d2, ds2, p2, q2, rfl, rfl, rfl, h2, h⟩ := trodAll_cons h
 obtain ⟨v3, vs3, d3, ds3, p3, q3, rfl, rfl, rfl, h3, h⟩ := trodAll_cons h
 obtain ⟨rfl, rfl, rfl⟩ := trodAll_nil h
 exact ⟨v0, v1, v2, v3, d0, d1, d2, d3, p0, p1, p2, p3, by cases args; simp_all, rfl, by simp, h0, h1, h2, h3⟩
end
end Go.Gv
namespace Go.Proofs.YtelkdhkalifeiaaGreatDoor
open Go.ChangeShapes Go.WideShapes Go.ChangeAt Go.RowKit Go.Gv

theorem Tryz.own : ownKnob Tryz.prog.godebug = none := by kernel_rfl
theorem Tryz.laidOut : laidOutB Tryz.prog = true := by kernel_rfl
theorem Tryz.seat : bI Tryz.prog ⟨Tryz.prog, fun g => TryzTbl.lookup g, fun t => (TryzTys.lookup t).getD 0, fun _ => .nilIface⟩ (fu Tryz.prog ⟨Tryz.prog, fun g => TryzTbl.lookup g, fun t => (TryzTys.lookup t).getD 0, fun _ => .nilIface⟩) /\ aD prog (fu Tryz.prog ⟨Tryz.prog, fun g => TryzTbl.lookup g, fun t => (TryzTys.lookup t).getD 0, fun _ => .nilIface⟩) :=
 Go.Gv.seat (by kernel_rfl) Tryz.laidOut Tryz_all
theorem Tryz.sh25 : rC Tryz.prog 10 25 = some shMsh := by kernel_rfl
theorem Tryz.itoa (n : Nat) (hn : n < 100) : fu Tryz.prog ⟨Tryz.prog, fun g => TryzTbl.lookup g, fun t => (TryzTys.lookup t).getD 0, fun _ => .nilIface⟩ 127 [.int .i64 n] (.str (Lib.decDigits n)) [] := by
 refine sK fun f hf M w vs r => ?_
 have e : f = 126 := Option.some.inj (hf.symm.trans (show TryzTbl.lookup 127 = some 126 from rfl))
 subst e
 simp only [az, ae] at r
 obtain ⟨v, r', rfl, rfl, rfl⟩ := r
 exact ⟨.string ⟨(Lib.decDigits n).toArray⟩, by simp only [ae], Tryz.strconv_Itoa_small n hn w⟩

set_option maxRecDepth 100000 in
theorem Tryz.srt : B8 (fu Tryz.prog ⟨Tryz.prog, fun g => TryzTbl.lookup g, fun t => (TryzTys.lookup t).getD 0, fun _ => .nilIface⟩) := fun m cs h0 hl hcl =>
 pV Tryz.sortL m h0 hl (fun f hf => Option.some.inj (hf.symm.trans (show TryzTbl.lookup 374 = some (Tryz.sortL_ren.f 6) by kernel_rfl)))
  (fun f hf => by
   obtain rfl : f = 32 := Option.some.inj (hf.symm.trans (show TryzTbl.lookup 847 = some 32 by kernel_rfl))
   kernel_rfl) hcl

/-- The door's own heap meets the condition. -/
theorem Tryz.met (os : Os) (args : Array Value) : laidMetH Tryz.prog Rows.sinksPitsRow.laid ((World.doorLaid Tryz.prog 24 os).forCall (fun _ _ => 0) ⟨#[], args, []⟩).memory :=
 laidMetH_of_parts3 (fuel := 8) (laidMet_of_run' 8 (by kernel_rfl) (by kernel_rfl)) (by kernel_rfl) (by kernel_rfl)

set_option maxRecDepth 100000 in
theorem sinksPits_lifted (os : Os) (started : os.Started) (H : Type) (enc : TypeId × Value -> H) :
  ReturnsInHanded {} Tryz.checked os 3 .any (fun w args => (Rows.sinksPitsSpec.pre enc Tryz.prog Tryz.f3 [] false w args /\ laidMetH Tryz.prog Rows.sinksPitsRow.laid w) /\ sizedMet enc Tryz.prog Tryz.f3 (OpenSpec.ofChange Rows.sinksPitsSpec) false w args) (Rows.sinksPitsSpec.post enc Tryz.prog Tryz.f3 false true false false) := by
 refine returnsInHanded_of_change_and (C := Tryz.checked) (X := fun w _ => laidMetH Tryz.prog Rows.sinksPitsRow.laid w) (fun _ _ _ hh h => h.of_heap hh) Tryz.own started (by kernel_rfl) Tryz.func3
  (ChangeSpec.witness_shaped (enc := enc) (C := Tryz.checked) (os := os) (X := fun w _ => laidMetH Tryz.prog Rows.sinksPitsRow.laid w) false (World.doorLaid Tryz.prog 24 os) #[.agg #[.slice none 0 0, .slice none 0 0], .int .i64 0, .int .i64 0, .int .i64 0] 8 rfl (World.shaped_of_RefB (by kernel_rfl) (by kernel_rfl)) (by kernel_rfl) (by kernel_rfl) (by kernel_rfl) (Tryz.met os _)) ?_
 intro W base args ds gs before hval0 hW _ hsz0 _ _
 have hsz : (DataW.weightsEach Tryz.prog (Tryz.f3.params.toList ++ Rows.sinksPitsSpec.plain.varTypes Tryz.prog) (ds ++ gs)).all (· <= reachBytes) = true := hsz0
 clear hsz0
 have hval : ∀ (j : Nat) t v, Tryz.f3.params[j]? = some t -> args[j]? = some v -> Value.okWide Tryz.prog W .any base t v := hval0
 have hW' := hW
 obtain ⟨p, q, hA0, hV, rfl, hfz, hnd⟩ := hW
 have hA : DataW.TrodAll enc Tryz.prog W 0 (fun _ => true) true Tryz.f3.params.toList args.toList ds p := hA0
 rw [Tryz.params3] at hA hval hsz
 obtain ⟨v0, v1, v2, v3, d0, d1, d2, d3, p0, p1, p2, p3, rfl, rfl, rfl, h0, h1, h2, h3⟩ := trodAll_args hA
 obtain ⟨rfl, rfl⟩ := trodVars_none hV
 clear hA0 hval0
 simp only [List.append_nil] at hW'
 simp only [DataW.weightsEach, List.cons_append, List.nil_append, List.all_append, Bool.and_eq_true] at hsz
 have hlt : ∀ x ∈ p0 ++ (p1 ++ (p2 ++ (p3))), x.block < W.heap.size := fun x hx => by simpa using hW'.lt x (by simpa using hx)
 obtain ⟨c0, s0, r0⟩ := rK (F := ⟨Tryz.prog, fun g => TryzTbl.lookup g, fun t => (TryzTys.lookup t).getD 0, fun _ => .nilIface⟩) Tryz.underlying25 Tryz.sh25 (hval 0 25 v0 rfl rfl) h0 hsz.1
 obtain ⟨m0, rfl⟩ := has_msh s0
 obtain ⟨n1, w1, r1⟩ := o9 (F := ⟨Tryz.prog, fun g => TryzTbl.lookup g, fun t => (TryzTys.lookup t).getD 0, fun _ => .nilIface⟩) Tryz.underlying3 (hval 1 3 v1 rfl rfl) h1
 obtain ⟨n2, w2, r2⟩ := o9 (F := ⟨Tryz.prog, fun g => TryzTbl.lookup g, fun t => (TryzTys.lookup t).getD 0, fun _ => .nilIface⟩) Tryz.underlying3 (hval 2 3 v2 rfl rfl) h2
 obtain ⟨n3, w3, r3⟩ := o9 (F := ⟨Tryz.prog, fun g => TryzTbl.lookup g, fun t => (TryzTys.lookup t).getD 0, fun _ => .nilIface⟩) Tryz.underlying3 (hval 3 3 v3 rfl rfl) h3
 have hrun := (qe Tryz.seat.2 Tryz.srt Lib.decDigits Tryz.itoa m0 n1 n2 n3).2 3 rfl
 have hargs0 : ∀ (W' : World), Below W.heap.size W W' -> DataW.Trod enc Tryz.prog W' 0 (fun b => decide (b < W.heap.size)) true 25 v0 d0 p0 :=
  fun W' hn => Below.trod Tryz.laidOut (by kernel_rfl) (of_decide_eq_true (by kernel_rfl)) h0 hn (fun x hx => hlt x (by simp [hx]))
 have hargs1 : ∀ (W' : World), Below W.heap.size W W' -> DataW.Trod enc Tryz.prog W' 0 (fun b => decide (b < W.heap.size)) true 3 v1 d1 p1 :=
  fun W' hn => Below.trod Tryz.laidOut (by kernel_rfl) (of_decide_eq_true (by kernel_rfl)) h1 hn (fun x hx => hlt x (by simp [hx]))
 have hargs2 : ∀ (W' : World), Below W.heap.size W W' -> DataW.Trod enc Tryz.prog W' 0 (fun b => decide (b < W.heap.size)) true 3 v2 d2 p2 :=
  fun W' hn => Below.trod Tryz.laidOut (by kernel_rfl) (of_decide_eq_true (by kernel_rfl)) h2 hn (fun x hx => hlt x (by simp [hx]))
 have hargs3 : ∀ (W' : World), Below W.heap.size W W' -> DataW.Trod enc Tryz.prog W' 0 (fun b => decide (b < W.heap.size)) true 3 v3 d3 p3 :=
  fun W' hn => Below.trod Tryz.laidOut (by kernel_rfl) (of_decide_eq_true (by kernel_rfl)) h3 hn (fun x hx => hlt x (by simp [hx]))
 have hcall := hrun (oo W) W [v0, v1, v2, v3] (fun p v h => h) (by simp only [az]; exact ⟨v0, _, rfl, r0, v1, _, rfl, r1, v2, _, rfl, r2, v3, _, rfl, r3, rfl⟩)
 refine hcall.mono fun e W' ⟨v, M', he, hn0, _, _, _, hv⟩ => ?_
 have hn := hn0.below
 simp only [ae] at hv
 subst hv
 refine ⟨_, he, _, _, _, [], p0 ++ (p1 ++ (p2 ++ (p3))), [], hW', trodAll_mk1 (shut_bool Tryz.underlying4 _), ⟨p0, _, hargs0 _ hn, ⟨p1, _, hargs1 _ hn, ⟨p2, _, hargs2 _ hn, trodAll_mk1 (hargs3 _ hn), rfl⟩, rfl⟩, rfl⟩, rfl, hn.frame _, fun h => by cases h⟩

theorem sinksPits_row : Rows.SinksPitsSaid :=
 OpenClaim.holds_of_wide 3 Tryz.f3 rfl rfl rfl rfl rfl rfl rfl ⟨rfl, rfl, rfl, rfl, rfl⟩ rfl rfl rfl rfl rfl (by kernel_rfl) Tryz.func3 (by kernel_rfl)
  (of_decide_eq_true (by kernel_rfl)) (by unfold Func.isWrapper; first | (rw [if_pos (by decide +kernel)]; kernel_rfl) | (rw [if_neg (by decide +kernel)]; exact ⟨rfl, rfl⟩))
  (fun os started H enc _ => sinksPits_lifted os started H enc)
theorem sinksPits_holds : Rows.SinksPitsCardSaid :=
 Claim7.holds_tied_plain_at .later [] [.data, .data, .data] true (true, "13902dd22374d139bfa31eb11e3cd88f83bc047e0ce0dd02d5f68ce922eb294f") true
  sinksPits_row (fun _ h => by cases h) (by kernel_rfl) (fun _ h => by cases h) sinksPits_row_tie rfl ⟨rfl, rfl⟩ (by kernel_rfl) rfl
  (fun f fn hf hfn => by
   obtain rfl : f = 3 := Option.some.inj ((show Tryz.prog.funcNamed "sewershed/sewershedlaw11.SinksPits" = some 3 by kernel_rfl).symm.trans hf) |>.symm
   obtain rfl : fn = Tryz.f3 := (Option.some.inj (Tryz.func3.symm.trans hfn)).symm
   exact ⟨by kernel_rfl, fun j t ht => by
    rw [Tryz.params3] at ht
    have h3 : t = 25 \/ t = 3 \/ t = 3 \/ t = 3 := by
     rcases j with _ | _ | _ | _ | j
     ·left; simpa using ht.symm
     ·right; left; simpa using ht.symm
     ·right; right; left; simpa using ht.symm
     ·right; right; right; simpa using ht.symm
     ·simp at ht
    rcases h3 with rfl | rfl | rfl | rfl
    ·exact (show Tryz.prog.wantsStandIn 25 = false by kernel_rfl)
    ·exact (show Tryz.prog.wantsStandIn 3 = false by kernel_rfl)
    ·exact (show Tryz.prog.wantsStandIn 3 = false by kernel_rfl)
    ·exact (show Tryz.prog.wantsStandIn 3 = false by kernel_rfl)⟩)
  (by kernel_rfl)
#print axioms sinksPits_holds
end Go.Proofs.YtelkdhkalifeiaaGreatDoor
