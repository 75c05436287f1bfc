/-
 THE LAW SinksLakes HOLDS: for every input it returns true, and each argument reads afterwards as it read before; the tables of the library that the row lists are tied to the program's text. No conditions of ours.
-/
import Derived.Test.YtelkdhkalifeiaaDoorCards
import Derived.Test.YtelkdhkalifeiaaDoorTie
import Derived.SevenTiedAt
import Derived.ProofKit
import Derived.LaidMore
import Derived.OpenShut
import Derived.Stop.Joined
import Derived.Test.YtelkdhkalifeiaaDoorX7
import Derived.Test.YtelkdhkalifeiaaDoorX9
set_option linter.all false
namespace Go.Gv
def shSpt : List Sh := [.int .i64, .int .i64, .int .i64]
def shFce : List Sh := [.int .i64, .int .i64, .int .i64, .int .i64]
def shPt : List Sh := [.int .i64, .int .i64]
theorem sl_spt {d : D} (h : ic (.sl shSpt) d) : ∃ (b : Bool) (l : List Spt), d = slx b (l.map jd) := by
 simp only [ic] at h
 obtain ⟨es, h1, h2, h3⟩ := h
 obtain ⟨xs, rfl⟩ := mR (f := jd) (fun e he => by
  have := h3 e he
  simp only [shSpt, b7, ic] at this
  obtain ⟨_, _, rfl, ⟨n1, rfl, _⟩, _, _, rfl, ⟨n2, rfl, _⟩, _, _, rfl, ⟨n3, rfl, _⟩, rfl⟩ := this
  exact ⟨⟨n1, n2, n3⟩, rfl⟩)
 rcases h1 with rfl | ⟨rfl, h1⟩
 ·exact ⟨false, xs, by simp⟩
 ·simp at h1
  subst h1
  exact ⟨true, [], rfl⟩
theorem sl_fce {d : D} (h : ic (.sl shFce) d) : ∃ (b : Bool) (l : List Fce), d = slx b (l.map cJ) := by
 simp only [ic] at h
 obtain ⟨es, h1, h2, h3⟩ := h
 obtain ⟨xs, rfl⟩ := mR (f := cJ) (fun e he => by
  have := h3 e he
  simp only [shFce, b7, ic] at this
  obtain ⟨_, _, rfl, ⟨n1, rfl, _⟩, _, _, rfl, ⟨n2, rfl, _⟩, _, _, rfl, ⟨n3, rfl, _⟩, _, _, rfl, ⟨n4, rfl, _⟩, rfl⟩ := this
  exact ⟨⟨n1, n2, n3, n4⟩, rfl⟩)
 rcases h1 with rfl | ⟨rfl, h1⟩
 ·exact ⟨false, xs, by simp⟩
 ·simp at h1
  subst h1
  exact ⟨true, [], rfl⟩
theorem sl_pnt {d : D} (h : ic (.sl shPt) d) : ∃ (b : Bool) (l : List Pnt), d = slx b (l.map fun x => ptD x) /\ l.length < 2 ^ 62 := by
 simp only [ic] at h
 obtain ⟨es, h1, h2, h3⟩ := h
 obtain ⟨xs, rfl⟩ := mR (f := fun x => ptD x) (fun e he => by
  have := h3 e he
  simp only [shPt, b7, ic] at this
  obtain ⟨_, _, rfl, ⟨n1, rfl, _⟩, _, _, rfl, ⟨n2, rfl, _⟩, rfl⟩ := this
  exact ⟨(n1, n2), rfl⟩)
 have hl : xs.length < 2 ^ 62 := by rw [List.length_map] at h2; omega
 rcases h1 with rfl | ⟨rfl, h1⟩
 ·exact ⟨false, xs, by simp, hl⟩
 ·simp at h1
  subst h1
  exact ⟨true, [], rfl, by simp⟩
def shMsh : List Sh := [.sl shSpt, .sl shFce]
theorem has_msh {ds : List D} (h : b7 shMsh ds) : ∃ m : Msh, ds = cm m := by
 simp only [shMsh, b7] at h
 obtain ⟨d1, r1, rfl, g1, d2, r2, rfl, g2, rfl⟩ := h
 obtain ⟨b1, l1, rfl⟩ := sl_spt g1
 obtain ⟨b2, l2, rfl⟩ := sl_fce g2
 exact ⟨⟨b1, l1, b2, l2⟩, rfl⟩
theorem has_pnt {ds : List D} (h : b7 shPt ds) : ∃ p : Pnt, ds = ptD p := by
 simp only [shPt, b7, ic] at h
 obtain ⟨d1, r1, rfl, ⟨n1, rfl, _⟩, d2, r2, rfl, ⟨n2, rfl, _⟩, rfl⟩ := h
 exact ⟨(n1, n2), rfl⟩
section
open Go.ChangeShapes
variable {H : Type} {enc : TypeId × Value -> H} {P : Program} {w : World} {base : Nat} {spare : Nat -> Bool} {held : Bool}
theorem trodAll_args {t0 : TypeId} {args : Array Value} {ds : List (DataW H)} {ps : List MemPlace} (h : DataW.TrodAll enc P w base spare held [t0] args.toList ds ps) :
  ∃ v0 d0 p0, args = #[v0] /\ ds = [d0] /\ ps = p0 /\ DataW.Trod enc P w base spare held t0 v0 d0 p0 := by
 obtain ⟨v0, vs0, d0, ds0, p0, q0, hargs, rfl, rfl, h0, h⟩ := trodAll_cons h
 obtain ⟨rfl, rfl, rfl⟩ := trodAll_nil h
 exact ⟨v0, d0, p0, by cases args; simp_all, rfl, by simp, h0⟩
end
end Go.Gv
namespace Go.Proofs.YtelkdhkalifeiaaDoor
open Go.ChangeShapes Go.WideShapes Go.ChangeAt Go.RowKit Go.Gv

theorem Tryd.own : ownKnob Tryd.prog.godebug = none := by kernel_rfl
theorem Tryd.laidOut : laidOutB Tryd.prog = true := by kernel_rfl
theorem Tryd.seat : bl Tryd.prog ⟨Tryd.prog, fun g => TrydTbl.lookup g, fun t => (TrydTys.lookup t).getD 0, fun _ => .nilIface⟩ (iK Tryd.prog ⟨Tryd.prog, fun g => TrydTbl.lookup g, fun t => (TrydTys.lookup t).getD 0, fun _ => .nilIface⟩) /\ aB prog (iK Tryd.prog ⟨Tryd.prog, fun g => TrydTbl.lookup g, fun t => (TrydTys.lookup t).getD 0, fun _ => .nilIface⟩) :=
 Go.Gv.seat (by kernel_rfl) Tryd.laidOut Tryd_all
theorem Tryd.sh25 : qj Tryd.prog 10 25 = some shMsh := by kernel_rfl
theorem Tryd.itoa (n : Nat) (hn : n < 100) : iK Tryd.prog ⟨Tryd.prog, fun g => TrydTbl.lookup g, fun t => (TrydTys.lookup t).getD 0, fun _ => .nilIface⟩ 127 [.int .i64 n] (.str (Lib.decDigits n)) [] := by
 refine rF fun f hf M w vs r => ?_
 have e : f = 82 := Option.some.inj (hf.symm.trans (show TrydTbl.lookup 127 = some 82 from rfl))
 subst e
 simp only [aw, ae] at r
 obtain ⟨v, r', rfl, rfl, rfl⟩ := r
 exact ⟨.string ⟨(Lib.decDigits n).toArray⟩, by simp only [ae], Tryd.strconv_Itoa_small n hn w⟩


/-- The door's own heap meets the condition. -/
theorem Tryd.met (os : Os) (args : Array Value) : laidMetH Tryd.prog Rows.sinksLakesRow.laid ((World.doorLaid Tryd.prog 24 os).forCall (fun _ _ => 0) ⟨#[], args, []⟩).memory :=
 laidMetH_of_parts3 (fuel := 8) (laidMet_of_run' 8 (by kernel_rfl) (by kernel_rfl)) (by kernel_rfl) (by kernel_rfl)

set_option maxRecDepth 100000 in
theorem sinksLakes_lifted (os : Os) (started : os.Started) (H : Type) (enc : TypeId × Value -> H) :
  ReturnsInHanded {} Tryd.checked os 6 .any (fun w args => (Rows.sinksLakesSpec.pre enc Tryd.prog Tryd.f6 [] false w args /\ laidMetH Tryd.prog Rows.sinksLakesRow.laid w) /\ sizedMet enc Tryd.prog Tryd.f6 (OpenSpec.ofChange Rows.sinksLakesSpec) false w args) (Rows.sinksLakesSpec.post enc Tryd.prog Tryd.f6 false true false false) := by
 refine returnsInHanded_of_change_and (C := Tryd.checked) (X := fun w _ => laidMetH Tryd.prog Rows.sinksLakesRow.laid w) (fun _ _ _ hh h => h.of_heap hh) Tryd.own started (by kernel_rfl) Tryd.func6
  (ChangeSpec.witness_shaped (enc := enc) (C := Tryd.checked) (os := os) (X := fun w _ => laidMetH Tryd.prog Rows.sinksLakesRow.laid w) false (World.doorLaid Tryd.prog 24 os) #[.agg #[.slice none 0 0, .slice none 0 0]] 8 rfl (World.shaped_of_RefB (by kernel_rfl) (by kernel_rfl)) (by kernel_rfl) (by kernel_rfl) (by kernel_rfl) (Tryd.met os _)) ?_
 intro W base args ds gs before hval0 hW _ hsz0 _ _
 have hsz : (DataW.weightsEach Tryd.prog (Tryd.f6.params.toList ++ Rows.sinksLakesSpec.plain.varTypes Tryd.prog) (ds ++ gs)).all (· <= reachBytes) = true := hsz0
 clear hsz0
 have hval : ∀ (j : Nat) t v, Tryd.f6.params[j]? = some t -> args[j]? = some v -> Value.okWide Tryd.prog W .any base t v := hval0
 have hW' := hW
 obtain ⟨p, q, hA0, hV, rfl, hfz, hnd⟩ := hW
 have hA : DataW.TrodAll enc Tryd.prog W 0 (fun _ => true) true Tryd.f6.params.toList args.toList ds p := hA0
 rw [Tryd.params6] at hA hval hsz
 obtain ⟨v0, d0, p0, rfl, rfl, ep0, h0⟩ := trodAll_args hA
 subst p
 obtain ⟨rfl, rfl⟩ := trodVars_none hV
 clear hA0 hval0
 simp only [List.append_nil] at hW'
 simp only [DataW.weightsEach, List.cons_append, List.nil_append, List.all_append, Bool.and_eq_true] at hsz
 have hlt : ∀ x ∈ p0, x.block < W.heap.size := fun x hx => by simpa using hW'.lt x (by simpa using hx)
 obtain ⟨c0, s0, r0⟩ := qt (F := ⟨Tryd.prog, fun g => TrydTbl.lookup g, fun t => (TrydTys.lookup t).getD 0, fun _ => .nilIface⟩) Tryd.underlying25 Tryd.sh25 (hval 0 25 v0 rfl rfl) h0 hsz.1
 obtain ⟨m0, rfl⟩ := has_msh s0
 have hrun := (n8 Tryd.seat.2 Lib.decDigits Tryd.itoa m0).2 6 rfl
 have hargs0 : ∀ (W' : World), Below W.heap.size W W' -> DataW.Trod enc Tryd.prog W' 0 (fun b => decide (b < W.heap.size)) true 25 v0 d0 p0 :=
  fun W' hn => Below.trod Tryd.laidOut (by kernel_rfl) (of_decide_eq_true (by kernel_rfl)) h0 hn (fun x hx => hlt x (by simp [hx]))
 have hcall := hrun (pi W) W [v0] (fun p v h => h) (by simp only [aw]; exact ⟨v0, _, rfl, r0, rfl⟩)
 refine hcall.mono fun e W' ⟨v, M', he, hn0, _, _, _, hv⟩ => ?_
 have hn := hn0.below
 simp only [ae] at hv
 subst hv
 refine ⟨_, he, _, _, _, [], p0, [], hW', trodAll_mk1 (shut_bool Tryd.underlying4 _), trodAll_mk1 (hargs0 _ hn), rfl, hn.frame _, fun h => by cases h⟩

theorem sinksLakes_row : Rows.SinksLakesSaid :=
 OpenClaim.holds_of_wide 6 Tryd.f6 rfl rfl rfl rfl rfl rfl rfl ⟨rfl, rfl, rfl, rfl, rfl⟩ rfl rfl rfl rfl rfl (by kernel_rfl) Tryd.func6 (by kernel_rfl)
  (of_decide_eq_true (by kernel_rfl)) (by unfold Func.isWrapper; first | (rw [if_pos (by decide +kernel)]; kernel_rfl) | (rw [if_neg (by decide +kernel)]; exact ⟨rfl, rfl⟩))
  (fun os started H enc _ => sinksLakes_lifted os started H enc)
theorem sinksLakes_holds : Rows.SinksLakesCardSaid :=
 Claim7.holds_tied_plain_at .later [] [.data, .data, .data] true (true, "e8d51d2dcd2848fef7e45474a4970ac78bb5355e4ad5758e4cba183e3cb88778") true
  sinksLakes_row (fun _ h => by cases h) (by kernel_rfl) (fun _ h => by cases h) sinksLakes_row_tie rfl ⟨rfl, rfl⟩ (by kernel_rfl) rfl
  (fun f fn hf hfn => by
   obtain rfl : f = 6 := Option.some.inj ((show Tryd.prog.funcNamed "sewershed/sewershedlaw11.SinksLakes" = some 6 by kernel_rfl).symm.trans hf) |>.symm
   obtain rfl : fn = Tryd.f6 := (Option.some.inj (Tryd.func6.symm.trans hfn)).symm
   exact ⟨by kernel_rfl, fun j t ht => by
    rw [Tryd.params6] at ht
    have h3 : t = 25 := by
     rcases j with _ | j
     ·simpa using ht.symm
     ·simp at ht
    subst h3
    exact (show Tryd.prog.wantsStandIn 25 = false by kernel_rfl)⟩)
  (by kernel_rfl)
#print axioms sinksLakes_holds
end Go.Proofs.YtelkdhkalifeiaaDoor
