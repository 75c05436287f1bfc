/-
 THE LAW SinksHeights HOLDS: for every input it returns true, and each argument reads afterwards as it read before; the tables of the library that the row lists are tied to the program's text. No conditions of ours.
-/
import Derived.Test.YtelkdhkalifeiaaDoorCards
import Derived.Test.YtelkdhkalifeiaaDoorTie
import Derived.SevenTiedAt
import Derived.ProofKit
import Derived.LaidMore
import Derived.OpenShut
import Derived.Stop.Joined
import Derived.Test.YtelkdhkalifeiaaDoorX7
import Derived.Test.YtelkdhkalifeiaaDoorX9
set_option linter.all false
namespace Go.Gv
def shSpt : List Sh := [.int .i64, .int .i64, .int .i64]
def shFce : List Sh := [.int .i64, .int .i64, .int .i64, .int .i64]
def shPt : List Sh := [.int .i64, .int .i64]
theorem sl_spt {d : D} (h : gy (.sl shSpt) d) : ∃ (b : Bool) (l : List Spt), d = slx b (l.map ju) := by
 simp only [gy] at h
 obtain ⟨es, h1, h2, h3⟩ := h
 obtain ⟨xs, rfl⟩ := lZ (f := ju) (fun e he => by
  have := h3 e he
  simp only [shSpt, bW, gy] at this
  obtain ⟨_, _, rfl, ⟨n1, rfl, _⟩, _, _, rfl, ⟨n2, rfl, _⟩, _, _, rfl, ⟨n3, rfl, _⟩, rfl⟩ := this
  exact ⟨⟨n1, n2, n3⟩, rfl⟩)
 rcases h1 with rfl | ⟨rfl, h1⟩
 ·exact ⟨false, xs, by simp⟩
 ·simp at h1
  subst h1
  exact ⟨true, [], rfl⟩
theorem sl_fce {d : D} (h : gy (.sl shFce) d) : ∃ (b : Bool) (l : List Fce), d = slx b (l.map cE) := by
 simp only [gy] at h
 obtain ⟨es, h1, h2, h3⟩ := h
 obtain ⟨xs, rfl⟩ := lZ (f := cE) (fun e he => by
  have := h3 e he
  simp only [shFce, bW, gy] at this
  obtain ⟨_, _, rfl, ⟨n1, rfl, _⟩, _, _, rfl, ⟨n2, rfl, _⟩, _, _, rfl, ⟨n3, rfl, _⟩, _, _, rfl, ⟨n4, rfl, _⟩, rfl⟩ := this
  exact ⟨⟨n1, n2, n3, n4⟩, rfl⟩)
 rcases h1 with rfl | ⟨rfl, h1⟩
 ·exact ⟨false, xs, by simp⟩
 ·simp at h1
  subst h1
  exact ⟨true, [], rfl⟩
theorem sl_pnt {d : D} (h : gy (.sl shPt) d) : ∃ (b : Bool) (l : List Pnt), d = slx b (l.map fun x => ptD x) /\ l.length < 2 ^ 62 := by
 simp only [gy] at h
 obtain ⟨es, h1, h2, h3⟩ := h
 obtain ⟨xs, rfl⟩ := lZ (f := fun x => ptD x) (fun e he => by
  have := h3 e he
  simp only [shPt, bW, gy] at this
  obtain ⟨_, _, rfl, ⟨n1, rfl, _⟩, _, _, rfl, ⟨n2, rfl, _⟩, rfl⟩ := this
  exact ⟨(n1, n2), rfl⟩)
 have hl : xs.length < 2 ^ 62 := by rw [List.length_map] at h2; omega
 rcases h1 with rfl | ⟨rfl, h1⟩
 ·exact ⟨false, xs, by simp, hl⟩
 ·simp at h1
  subst h1
  exact ⟨true, [], rfl, by simp⟩
def shMsh : List Sh := [.sl shSpt, .sl shFce]
theorem has_msh {ds : List D} (h : bW shMsh ds) : ∃ m : Msh, ds = ci m := by
 simp only [shMsh, bW] at h
 obtain ⟨d1, r1, rfl, g1, d2, r2, rfl, g2, rfl⟩ := h
 obtain ⟨b1, l1, rfl⟩ := sl_spt g1
 obtain ⟨b2, l2, rfl⟩ := sl_fce g2
 exact ⟨⟨b1, l1, b2, l2⟩, rfl⟩
theorem has_pnt {ds : List D} (h : bW shPt ds) : ∃ p : Pnt, ds = ptD p := by
 simp only [shPt, bW, gy] at h
 obtain ⟨d1, r1, rfl, ⟨n1, rfl, _⟩, d2, r2, rfl, ⟨n2, rfl, _⟩, rfl⟩ := h
 exact ⟨(n1, n2), rfl⟩
theorem u8_bd {n : Int} (h : (Lit.int .u8 n).wf = true) : 0 <= n /\ n <= 255 := by
 have e1 : IntKind.u8.min = 0 := rfl
 have e2 : IntKind.u8.max = 255 := rfl
 simp [Lit.wf, e1, e2] at h
 omega
section
open Go.ChangeShapes
variable {H : Type} {enc : TypeId × Value -> H} {P : Program} {w : World} {base : Nat} {spare : Nat -> Bool} {held : Bool}
theorem trodAll_args {t0 t1 t2 t3 : TypeId} {args : Array Value} {ds : List (DataW H)} {ps : List MemPlace} (h : DataW.TrodAll enc P w base spare held [t0, t1, t2, t3] args.toList ds ps) :
  ∃ v0 v1 v2 v3 d0 d1 d2 d3 p0 p1 p2 p3, args = #[v0, v1, v2, v3] /\ ds = [d0, d1, d2, d3] /\ ps = p0 ++ (p1 ++ (p2 ++ (p3))) /\ DataW.Trod enc P w base spare held t0 v0 d0 p0 /\ DataW.Trod enc P w base spare held t1 v1 d1 p1 /\ DataW.Trod enc P w base spare held t2 v2 d2 p2 /\ DataW.Trod enc P w base spare held t3 v3 d3 p3 := by
 obtain ⟨v0, vs0, d0, ds0, p0, q0, hargs, rfl, rfl, h0, h⟩ := trodAll_cons h
 obtain ⟨v1, vs1, d1, ds1, p1, q1, rfl, rfl, rfl, h1, h⟩ := trodAll_cons h
 obtain ⟨v2, vs2, d2, ds2, p2, q2, rfl, rfl, rfl, h2, h⟩ := trodAll_cons h
 obtain ⟨v3, vs3, d3, ds3, p3, q3, rfl, rfl, rfl, h3, h⟩ := trodAll_cons h
 obtain ⟨rfl, rfl, rfl⟩ := trodAll_nil h
 exact ⟨v0, v1, v2, v3, d0, d1, d2, d3, p0, p1, p2, p3, by cases args; simp_all, rfl, by simp, h0, h1, h2, h3⟩
end
end Go.Gv
namespace Go.Proofs.YtelkdhkalifeiaaDoor
open Go.ChangeShapes Go.WideShapes Go.ChangeAt Go.RowKit Go.Gv

theorem Tryd.own : ownKnob Tryd.prog.godebug = none := by kernel_rfl
theorem Tryd.laidOut : laidOutB Tryd.prog = true := by kernel_rfl
theorem Tryd.seat : bj Tryd.prog ⟨Tryd.prog, fun g => TrydTbl.lookup g, fun t => (TrydTys.lookup t).getD 0, fun _ => .nilIface⟩ (eD Tryd.prog ⟨Tryd.prog, fun g => TrydTbl.lookup g, fun t => (TrydTys.lookup t).getD 0, fun _ => .nilIface⟩) /\ az prog (eD Tryd.prog ⟨Tryd.prog, fun g => TrydTbl.lookup g, fun t => (TrydTys.lookup t).getD 0, fun _ => .nilIface⟩) :=
 Go.Gv.seat (by kernel_rfl) Tryd.laidOut Tryd_all
theorem Tryd.sh25 : pc Tryd.prog 10 25 = some shMsh := by kernel_rfl
theorem Tryd.itoa (n : Nat) (hn : n < 100) : eD Tryd.prog ⟨Tryd.prog, fun g => TrydTbl.lookup g, fun t => (TrydTys.lookup t).getD 0, fun _ => .nilIface⟩ 127 [.int .i64 n] (.str (Lib.decDigits n)) [] := by
 refine qf fun f hf M w vs r => ?_
 have e : f = 82 := Option.some.inj (hf.symm.trans (show TrydTbl.lookup 127 = some 82 from rfl))
 subst e
 simp only [ap, ab] at r
 obtain ⟨v, r', rfl, rfl, rfl⟩ := r
 exact ⟨.string ⟨(Lib.decDigits n).toArray⟩, by simp only [ab], Tryd.strconv_Itoa_small n hn w⟩

set_option maxRecDepth 100000 in
theorem Tryd.srt : yS (eD Tryd.prog ⟨Tryd.prog, fun g => TrydTbl.lookup g, fun t => (TrydTys.lookup t).getD 0, fun _ => .nilIface⟩) := fun m cs h0 hl hcl =>
 nY Tryd.sortL m h0 hl (fun f hf => Option.some.inj (hf.symm.trans (show TrydTbl.lookup 374 = some (Tryd.sortL_ren.f 6) by kernel_rfl)))
  (fun f hf => by
   obtain rfl : f = 54 := Option.some.inj (hf.symm.trans (show TrydTbl.lookup 847 = some 54 by kernel_rfl))
   kernel_rfl) hcl

/-- The door's own heap meets the condition. -/
theorem Tryd.met (os : Os) (args : Array Value) : laidMetH Tryd.prog Rows.sinksHeightsRow.laid ((World.doorLaid Tryd.prog 24 os).forCall (fun _ _ => 0) ⟨#[], args, []⟩).memory :=
 laidMetH_of_parts3 (fuel := 8) (laidMet_of_run' 8 (by kernel_rfl) (by kernel_rfl)) (by kernel_rfl) (by kernel_rfl)

set_option maxRecDepth 100000 in
theorem sinksHeights_lifted (os : Os) (started : os.Started) (H : Type) (enc : TypeId × Value -> H) :
  ReturnsInHanded {} Tryd.checked os 7 .any (fun w args => (Rows.sinksHeightsSpec.pre enc Tryd.prog Tryd.f7 [] false w args /\ laidMetH Tryd.prog Rows.sinksHeightsRow.laid w) /\ sizedMet enc Tryd.prog Tryd.f7 (OpenSpec.ofChange Rows.sinksHeightsSpec) false w args) (Rows.sinksHeightsSpec.post enc Tryd.prog Tryd.f7 false true false false) := by
 refine returnsInHanded_of_change_and (C := Tryd.checked) (X := fun w _ => laidMetH Tryd.prog Rows.sinksHeightsRow.laid w) (fun _ _ _ hh h => h.of_heap hh) Tryd.own started (by kernel_rfl) Tryd.func7
  (ChangeSpec.witness_shaped (enc := enc) (C := Tryd.checked) (os := os) (X := fun w _ => laidMetH Tryd.prog Rows.sinksHeightsRow.laid w) false (World.doorLaid Tryd.prog 24 os) #[.agg #[.slice none 0 0, .slice none 0 0], .int .u8 0, .int .u8 0, .int .u8 0] 8 rfl (World.shaped_of_RefB (by kernel_rfl) (by kernel_rfl)) (by kernel_rfl) (by kernel_rfl) (by kernel_rfl) (Tryd.met os _)) ?_
 intro W base args ds gs before hval0 hW _ hsz0 _ _
 have hsz : (DataW.weightsEach Tryd.prog (Tryd.f7.params.toList ++ Rows.sinksHeightsSpec.plain.varTypes Tryd.prog) (ds ++ gs)).all (· <= reachBytes) = true := hsz0
 clear hsz0
 have hval : ∀ (j : Nat) t v, Tryd.f7.params[j]? = some t -> args[j]? = some v -> Value.okWide Tryd.prog W .any base t v := hval0
 have hW' := hW
 obtain ⟨p, q, hA0, hV, rfl, hfz, hnd⟩ := hW
 have hA : DataW.TrodAll enc Tryd.prog W 0 (fun _ => true) true Tryd.f7.params.toList args.toList ds p := hA0
 rw [Tryd.params7] at hA hval hsz
 obtain ⟨v0, v1, v2, v3, d0, d1, d2, d3, p0, p1, p2, p3, rfl, rfl, rfl, h0, h1, h2, h3⟩ := trodAll_args hA
 obtain ⟨rfl, rfl⟩ := trodVars_none hV
 clear hA0 hval0
 simp only [List.append_nil] at hW'
 simp only [DataW.weightsEach, List.cons_append, List.nil_append, List.all_append, Bool.and_eq_true] at hsz
 have hlt : ∀ x ∈ p0 ++ (p1 ++ (p2 ++ (p3))), x.block < W.heap.size := fun x hx => by simpa using hW'.lt x (by simpa using hx)
 obtain ⟨c0, s0, r0⟩ := ph (F := ⟨Tryd.prog, fun g => TrydTbl.lookup g, fun t => (TrydTys.lookup t).getD 0, fun _ => .nilIface⟩) Tryd.underlying25 Tryd.sh25 (hval 0 25 v0 rfl rfl) h0 hsz.1
 obtain ⟨m0, rfl⟩ := has_msh s0
 obtain ⟨n1, w1, r1⟩ := nj (F := ⟨Tryd.prog, fun g => TrydTbl.lookup g, fun t => (TrydTys.lookup t).getD 0, fun _ => .nilIface⟩) Tryd.underlying5 (hval 1 5 v1 rfl rfl) h1
 have u1 := u8_bd w1
 obtain ⟨n2, w2, r2⟩ := nj (F := ⟨Tryd.prog, fun g => TrydTbl.lookup g, fun t => (TrydTys.lookup t).getD 0, fun _ => .nilIface⟩) Tryd.underlying5 (hval 2 5 v2 rfl rfl) h2
 have u2 := u8_bd w2
 obtain ⟨n3, w3, r3⟩ := nj (F := ⟨Tryd.prog, fun g => TrydTbl.lookup g, fun t => (TrydTys.lookup t).getD 0, fun _ => .nilIface⟩) Tryd.underlying5 (hval 3 5 v3 rfl rfl) h3
 have u3 := u8_bd w3
 have hrun := (li Tryd.seat.2 Tryd.srt Lib.decDigits Tryd.itoa m0 n1 u1 n2 u2 n3 u3).2 7 rfl
 have hargs0 : ∀ (W' : World), Below W.heap.size W W' -> DataW.Trod enc Tryd.prog W' 0 (fun b => decide (b < W.heap.size)) true 25 v0 d0 p0 :=
  fun W' hn => Below.trod Tryd.laidOut (by kernel_rfl) (of_decide_eq_true (by kernel_rfl)) h0 hn (fun x hx => hlt x (by simp [hx]))
 have hargs1 : ∀ (W' : World), Below W.heap.size W W' -> DataW.Trod enc Tryd.prog W' 0 (fun b => decide (b < W.heap.size)) true 5 v1 d1 p1 :=
  fun W' hn => Below.trod Tryd.laidOut (by kernel_rfl) (of_decide_eq_true (by kernel_rfl)) h1 hn (fun x hx => hlt x (by simp [hx]))
 have hargs2 : ∀ (W' : World), Below W.heap.size W W' -> DataW.Trod enc Tryd.prog W' 0 (fun b => decide (b < W.heap.size)) true 5 v2 d2 p2 :=
  fun W' hn => Below.trod Tryd.laidOut (by kernel_rfl) (of_decide_eq_true (by kernel_rfl)) h2 hn (fun x hx => hlt x (by simp [hx]))
 have hargs3 : ∀ (W' : World), Below W.heap.size W W' -> DataW.Trod enc Tryd.prog W' 0 (fun b => decide (b < W.heap.size)) true 5 v3 d3 p3 :=
  fun W' hn => Below.trod Tryd.laidOut (by kernel_rfl) (of_decide_eq_true (by kernel_rfl)) h3 hn (fun x hx => hlt x (by simp [hx]))
 have hcall := hrun (mA W) W [v0, v1, v2, v3] (fun p v h => h) (by simp only [ap]; exact ⟨v0, _, rfl, r0, v1, _, rfl, r1, v2, _, rfl, r2, v3, _, rfl, r3, rfl⟩)
 refine hcall.mono fun e W' ⟨v, M', he, hn0, _, _, _, hv⟩ => ?_
 have hn := hn0.below
 simp only [ab] at hv
 subst hv
 refine ⟨_, he, _, _, _, [], p0 ++ (p1 ++ (p2 ++ (p3))), [], hW', trodAll_mk1 (shut_bool Tryd.underlying4 _), ⟨p0, _, hargs0 _ hn, ⟨p1, _, hargs1 _ hn, ⟨p2, _, hargs2 _ hn, trodAll_mk1 (hargs3 _ hn), rfl⟩, rfl⟩, rfl⟩, rfl, hn.frame _, fun h => by cases h⟩

theorem sinksHeights_row : Rows.SinksHeightsSaid :=
 OpenClaim.holds_of_wide 7 Tryd.f7 rfl rfl rfl rfl rfl rfl rfl ⟨rfl, rfl, rfl, rfl, rfl⟩ rfl rfl rfl rfl rfl (by kernel_rfl) Tryd.func7 (by kernel_rfl)
  (of_decide_eq_true (by kernel_rfl)) (by unfold Func.isWrapper; first | (rw [if_pos (by decide +kernel)]; kernel_rfl) | (rw [if_neg (by decide +kernel)]; exact ⟨rfl, rfl⟩))
  (fun os started H enc _ => sinksHeights_lifted os started H enc)
theorem sinksHeights_holds : Rows.SinksHeightsCardSaid :=
 Claim7.holds_tied_plain_at .later [] [.data, .data, .data] true (true, "e8d51d2dcd2848fef7e45474a4970ac78bb5355e4ad5758e4cba183e3cb88778") true
  sinksHeights_row (fun _ h => by cases h) (by kernel_rfl) (fun _ h => by cases h) sinksHeights_row_tie rfl ⟨rfl, rfl⟩ (by kernel_rfl) rfl
  (fun f fn hf hfn => by
   obtain rfl : f = 7 := Option.some.inj ((show Tryd.prog.funcNamed "sewershed/sewershedlaw11.SinksHeights" = some 7 by kernel_rfl).symm.trans hf) |>.symm
   obtain rfl : fn = Tryd.f7 := (Option.some.inj (Tryd.func7.symm.trans hfn)).symm
   exact ⟨by kernel_rfl, fun j t ht => by
    rw [Tryd.params7] at ht
    have h3 : t = 25 \/ t = 5 \/ t = 5 \/ t = 5 := by
     rcases j with _ | _ | _ | _ | j
     ·left; simpa using ht.symm
     ·right; left; simpa using ht.symm
     ·right; right; left; simpa using ht.symm
     ·right; right; right; simpa using ht.symm
     ·simp at ht
    rcases h3 with rfl | rfl | rfl | rfl
    ·exact (show Tryd.prog.wantsStandIn 25 = false by kernel_rfl)
    ·exact (show Tryd.prog.wantsStandIn 5 = false by kernel_rfl)
    ·exact (show Tryd.prog.wantsStandIn 5 = false by kernel_rfl)
    ·exact (show Tryd.prog.wantsStandIn 5 = false by kernel_rfl)⟩)
  (by kernel_rfl)
#print axioms sinksHeights_holds
end Go.Proofs.YtelkdhkalifeiaaDoor
