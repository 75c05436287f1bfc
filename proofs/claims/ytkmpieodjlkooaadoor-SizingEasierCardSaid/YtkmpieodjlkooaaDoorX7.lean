/-
  THE LAW SizingEasier HOLDS: for every input it returns true, and each argument reads afterwards as it read before; the three tables of the library that the row lists are tied to the program's text. No conditions of ours.
-/
import Derived.Test.YtkmpieodjlkooaaDoorCards
import Derived.Test.YtkmpieodjlkooaaDoorTie
import Derived.SevenTiedAt
import Derived.ProofKit
import Derived.LaidMore
import Derived.OpenShut
import Derived.Stop.Joined
import Derived.Test.YtkmpieodjlkooaaDoorX5
import Derived.Test.YtkmpieodjlkooaaDoorX6
set_option linter.all false
namespace Go.Gv
theorem sl_int {d : D} (h : HasSh (.sl [.int .i64]) d) : ∃ x : SlI, d = slI x ∧ x.l.length < 140737488355328 := by
  simp only [HasSh] at h
  obtain ⟨es, h1, h2, h3⟩ := h
  obtain ⟨xs, rfl⟩ := rows_map (f := fun n : Int => [D.int .i64 n]) (fun e he => by
    have := h3 e he
    simp only [HasShL, HasSh] at this
    obtain ⟨d, r, rfl, ⟨n, rfl, _⟩, rfl⟩ := this
    exact ⟨n, rfl⟩)
  rcases h1 with rfl | ⟨rfl, h1⟩
  · exact ⟨⟨false, xs⟩, by simp, by simpa using h2⟩
  · simp at h1
    subst h1
    exact ⟨⟨true, []⟩, rfl, by simp⟩
theorem sl_kn {d : D} (h : HasSh (.sl [.int .i64, .int .i64]) d) : ∃ (b : Bool) (l : List (Int × Int)), d = slx b (l.map knD) := by
  simp only [HasSh] at h
  obtain ⟨es, h1, h2, h3⟩ := h
  obtain ⟨xs, rfl⟩ := rows_map (f := knD) (fun e he => by
    have := h3 e he
    simp only [HasShL, HasSh] at this
    obtain ⟨d, r, rfl, ⟨n, rfl, _⟩, d', r', rfl, ⟨n', rfl, _⟩, rfl⟩ := this
    exact ⟨(n, n'), rfl⟩)
  rcases h1 with rfl | ⟨rfl, h1⟩
  · exact ⟨false, xs, by simp⟩
  · simp at h1
    subst h1
    exact ⟨true, [], rfl⟩
def shSec : List Sh := [.str, .int .i64, .int .i64, .sl [.int .i64, .int .i64], .sl [.int .i64, .int .i64]]
theorem sl_sec {d : D} (h : HasSh (.sl shSec) d) : ∃ (b : Bool) (l : List Sec), d = slx b (l.map secC) := by
  simp only [HasSh] at h
  obtain ⟨es, h1, h2, h3⟩ := h
  obtain ⟨xs, rfl⟩ := rows_map (f := secC) (fun e he => by
    have := h3 e he
    simp only [shSec, HasShL] at this
    obtain ⟨d1, r1, rfl, g1, d2, r2, rfl, g2, d3, r3, rfl, g3, d4, r4, rfl, g4, d5, r5, rfl, g5, rfl⟩ := this
    obtain ⟨b4, l4, rfl⟩ := sl_kn g4
    obtain ⟨b5, l5, rfl⟩ := sl_kn g5
    simp only [HasSh] at g1 g2 g3
    obtain ⟨s, rfl, _⟩ := g1
    obtain ⟨n2, rfl, _⟩ := g2
    obtain ⟨n3, rfl, _⟩ := g3
    exact ⟨⟨s, n2, n3, b4, l4, b5, l5⟩, rfl⟩)
  rcases h1 with rfl | ⟨rfl, h1⟩
  · exact ⟨false, xs, by simp⟩
  · simp at h1
    subst h1
    exact ⟨true, [], rfl⟩
def shJob : List Sh := [.sl [.int .i64], .sl [.int .i64], .sl [.int .i64], .sl [.int .i64], .sl [.int .i64], .sl shSec]
theorem has_job {ds : List D} (h : HasShL shJob ds) : ∃ j : Job, ds = jobC j := by
  simp only [shJob, HasShL] at h
  obtain ⟨d1, r1, rfl, g1, d2, r2, rfl, g2, d3, r3, rfl, g3, d4, r4, rfl, g4, d5, r5, rfl, g5, d6, r6, rfl, g6, rfl⟩ := h
  obtain ⟨x1, rfl, _⟩ := sl_int g1
  obtain ⟨x2, rfl, _⟩ := sl_int g2
  obtain ⟨x3, rfl, _⟩ := sl_int g3
  obtain ⟨x4, rfl, _⟩ := sl_int g4
  obtain ⟨x5, rfl, _⟩ := sl_int g5
  obtain ⟨b, l, rfl⟩ := sl_sec g6
  exact ⟨⟨x1, x2, x3, x4, x5, b, l⟩, rfl⟩
theorem sl_u32 {d : D} (h : HasSh (.sl [.int .u32]) d) : ∃ (b : Bool) (l : List Int), d = slx b (l.map fun n => [.int .u32 n]) ∧ (∀ n ∈ l, 0 ≤ n ∧ n < 4294967296) ∧ l.length < 140737488355328 := by
  simp only [HasSh] at h
  obtain ⟨es, h1, h2, h3⟩ := h
  obtain ⟨xs, rfl, hx⟩ := rows_mapP (f := fun n : Int => [D.int .u32 n]) (p := fun n => 0 ≤ n ∧ n < 4294967296) (fun e he => by
    have := h3 e he
    simp only [HasShL, HasSh] at this
    obtain ⟨d, r, rfl, ⟨n, rfl, hw⟩, rfl⟩ := this
    refine ⟨n, rfl, ?_⟩
    have e1 : IntKind.u32.min = 0 := rfl
    have e2 : IntKind.u32.max = 4294967295 := rfl
    simp [Lit.wf, e1, e2] at hw
    omega)
  rcases h1 with rfl | ⟨rfl, h1⟩
  · exact ⟨false, xs, by simp, hx, by simpa using h2⟩
  · simp at h1
    subst h1
    exact ⟨true, [], rfl, by simp, by simp⟩
end Go.Gv
namespace Go.Proofs.YtkmpieodjlkooaaDoor
open Go.ChangeShapes Go.WideShapes Go.ChangeAt Go.RowKit Go.Gv

theorem Tryd.own : ownKnob Tryd.prog.godebug = none := by kernel_rfl
theorem Tryd.laidOut : laidOutB Tryd.prog = true := by kernel_rfl
theorem Tryd.seat : CSound Tryd.prog ⟨Tryd.prog, fun g => TrydTbl.lookup g, fun t => (TrydTys.lookup t).getD 0⟩ (runsC Tryd.prog ⟨Tryd.prog, fun g => TrydTbl.lookup g, fun t => (TrydTys.lookup t).getD 0⟩) ∧ Closed prog (runsC Tryd.prog ⟨Tryd.prog, fun g => TrydTbl.lookup g, fun t => (TrydTys.lookup t).getD 0⟩) :=
  Go.Gv.seat (by kernel_rfl) Tryd.laidOut Tryd_all
theorem Tryd.sh25 : tySh Tryd.prog 10 25 = some shJob := by kernel_rfl
theorem Tryd.sh26 : tySh Tryd.prog 10 26 = some [.sl [.int .u32]] := by kernel_rfl
theorem Tryd.itoa (n : Nat) (hn : n < 100) : runsC Tryd.prog ⟨Tryd.prog, fun g => TrydTbl.lookup g, fun t => (TrydTys.lookup t).getD 0⟩ 127 [.int .i64 n] (.str (Lib.decDigits n)) [] := by
  refine runsC_same fun f hf M w vs r => ?_
  have e : f = 11 := Option.some.inj (hf.symm.trans (show TrydTbl.lookup 127 = some 11 from rfl))
  subst e
  simp only [RepL, RepC] at r
  obtain ⟨v, r', rfl, rfl, rfl⟩ := r
  exact ⟨.string ⟨(Lib.decDigits n).toArray⟩, by simp only [RepC], Tryd.strconv_Itoa_small n hn w⟩

/-- The door's own heap meets the condition. -/
theorem Tryd.met (os : Os) (args : Array Value) : laidMetH Tryd.prog Rows.sizingEasierRow.laid ((World.doorLaid Tryd.prog 24 os).forCall (fun _ _ => 0) ⟨#[], args, []⟩).memory :=
  laidMetH_of_parts3 (fuel := 8) (laidMet_of_run' 8 (by kernel_rfl) (by kernel_rfl)) (by kernel_rfl) (by kernel_rfl)

set_option maxRecDepth 100000 in
theorem sizingEasier_lifted (os : Os) (started : os.Started) (H : Type) (enc : TypeId × Value → H) :
    ReturnsInHanded {} Tryd.checked os 3 .any (fun w args => (Rows.sizingEasierSpec.pre enc Tryd.prog Tryd.f3 [] false w args ∧ laidMetH Tryd.prog Rows.sizingEasierRow.laid w) ∧ sizedMet enc Tryd.prog Tryd.f3 (OpenSpec.ofChange Rows.sizingEasierSpec) false w args) (Rows.sizingEasierSpec.post enc Tryd.prog Tryd.f3 false true false false) := by
  refine returnsInHanded_of_change_and (C := Tryd.checked) (X := fun w _ => laidMetH Tryd.prog Rows.sizingEasierRow.laid w) (fun _ _ _ hh h => h.of_heap hh) Tryd.own started (by kernel_rfl) Tryd.func3
    (ChangeSpec.witness_shaped (enc := enc) (C := Tryd.checked) (os := os) (X := fun w _ => laidMetH Tryd.prog Rows.sizingEasierRow.laid w) false (World.doorLaid Tryd.prog 24 os) #[.agg #[.slice none 0 0, .slice none 0 0, .slice none 0 0, .slice none 0 0, .slice none 0 0, .slice none 0 0], .slice none 0 0, .slice none 0 0] 8 rfl (World.shaped_of_RefB (by kernel_rfl) (by kernel_rfl)) (by kernel_rfl) (by kernel_rfl) (by kernel_rfl) (Tryd.met os _)) ?_
  intro W base args ds gs before hval0 hW _ hsz0 _ _
  have hsz : (DataW.weightsEach Tryd.prog (Tryd.f3.params.toList ++ Rows.sizingEasierSpec.plain.varTypes Tryd.prog) (ds ++ gs)).all (· ≤ reachBytes) = true := hsz0
  clear hsz0
  have hval : ∀ (j : Nat) t v, Tryd.f3.params[j]? = some t → args[j]? = some v → Value.okWide Tryd.prog W .any base t v := hval0
  have hW' := hW
  obtain ⟨p, q, hA0, hV, rfl, hfz, hnd⟩ := hW
  have hA : DataW.TrodAll enc Tryd.prog W 0 (fun _ => true) true Tryd.f3.params.toList args.toList ds p := hA0
  rw [Tryd.params3] at hA hval hsz
  obtain ⟨v0, v1, v2, d0, d1, d2, p0, p1, p2, rfl, rfl, rfl, h0, h1, h2⟩ := trodAll_three hA
  obtain ⟨rfl, rfl⟩ := trodVars_none hV
  clear hA0 hval0
  simp only [List.append_nil] at hW'
  simp only [DataW.weightsEach, List.cons_append, List.nil_append, List.all_append, Bool.and_eq_true] at hsz
  have hlt : ∀ x ∈ p0 ++ p1 ++ p2, x.block < W.heap.size := fun x hx => by simpa using hW'.lt x (by simpa using hx)
  obtain ⟨c0, s0, r0⟩ := arg_struct (F := ⟨Tryd.prog, fun g => TrydTbl.lookup g, fun t => (TrydTys.lookup t).getD 0⟩) Tryd.underlying25 Tryd.sh25 (hval 0 25 v0 rfl rfl) h0 hsz.1
  obtain ⟨j, rfl⟩ := has_job s0
  obtain ⟨c1, s1, r1⟩ := arg_slice (F := ⟨Tryd.prog, fun g => TrydTbl.lookup g, fun t => (TrydTys.lookup t).getD 0⟩) Tryd.underlying26 Tryd.sh26 (hval 1 26 v1 rfl rfl) h1 hsz.2.1
  obtain ⟨c2, s2, r2⟩ := arg_slice (F := ⟨Tryd.prog, fun g => TrydTbl.lookup g, fun t => (TrydTys.lookup t).getD 0⟩) Tryd.underlying26 Tryd.sh26 (hval 2 26 v2 rfl rfl) h2 hsz.2.2.1
  obtain ⟨b1, l1, rfl, g1, n1⟩ := sl_u32 s1
  obtain ⟨b2, l2, rfl, g2, n2⟩ := sl_u32 s2
  have hrun := (SizingEasier_c Tryd.seat.2 Lib.decDigits Tryd.itoa j b1 b2 l1 l2 g1 g2 (by omega) (by omega)).2 3 rfl
  have hargs : ∀ (W' : World), Below W.heap.size W W' → DataW.Trod enc Tryd.prog W' 0 (fun b => decide (b < W.heap.size)) true 25 v0 d0 p0 :=
    fun W' hn => Below.trod Tryd.laidOut (by kernel_rfl) (of_decide_eq_true (by kernel_rfl)) h0 hn (fun x hx => hlt x (by simp [hx]))
  have hargs1 : ∀ (W' : World), Below W.heap.size W W' → DataW.Trod enc Tryd.prog W' 0 (fun b => decide (b < W.heap.size)) true 26 v1 d1 p1 :=
    fun W' hn => Below.trod Tryd.laidOut (by kernel_rfl) (of_decide_eq_true (by kernel_rfl)) h1 hn (fun x hx => hlt x (by simp [hx]))
  have hargs2 : ∀ (W' : World), Below W.heap.size W W' → DataW.Trod enc Tryd.prog W' 0 (fun b => decide (b < W.heap.size)) true 26 v2 d2 p2 :=
    fun W' hn => Below.trod Tryd.laidOut (by kernel_rfl) (of_decide_eq_true (by kernel_rfl)) h2 hn (fun x hx => hlt x (by simp [hx]))
  have hcall := hrun (cellM W) W [v0, v1, v2] (fun p v h => h) (by simp only [RepL]; exact ⟨v0, _, rfl, r0, v1, _, rfl, r1, v2, _, rfl, r2, rfl⟩)
  refine hcall.mono fun e W' ⟨v, M', he, hn, _, _, _, hv⟩ => ?_
  simp only [RepC] at hv
  subst hv
  refine ⟨_, he, _, _, _, [], _, [], hW', trodAll_mk1 (shut_bool Tryd.underlying4 _), trodAll_mk3 (hargs _ hn) (hargs1 _ hn) (hargs2 _ hn), rfl, hn.frame _, fun h => by cases h⟩

theorem sizingEasier_row : Rows.SizingEasierSaid :=
  OpenClaim.holds_of_wide 3 Tryd.f3 rfl rfl rfl rfl rfl rfl rfl ⟨rfl, rfl, rfl, rfl, rfl⟩ rfl rfl rfl rfl rfl (by kernel_rfl) Tryd.func3 (by kernel_rfl)
    (of_decide_eq_true (by kernel_rfl)) (by unfold Func.isWrapper; first | (rw [if_pos (by decide +kernel)]; kernel_rfl) | (rw [if_neg (by decide +kernel)]; exact ⟨rfl, rfl⟩))
    (fun os started H enc _ => sizingEasier_lifted os started H enc)
theorem sizingEasier_holds : Rows.SizingEasierCardSaid :=
  Claim7.holds_tied_plain_at .later [] [.data, .data, .data] true (true, "9219704fb47b1796f62324999085d153318cf26080d43d03a781ca80cdc2a893") false
    sizingEasier_row (fun _ h => by cases h) (by kernel_rfl) (fun _ h => by cases h) sizingEasier_row_tie rfl ⟨rfl, rfl⟩ (by kernel_rfl) rfl
    (fun f fn hf hfn => by
      obtain rfl : f = 3 := Option.some.inj ((show Tryd.prog.funcNamed "sewershed/sewershedlaw47.SizingEasier" = some 3 by kernel_rfl).symm.trans hf) |>.symm
      obtain rfl : fn = Tryd.f3 := (Option.some.inj (Tryd.func3.symm.trans hfn)).symm
      exact ⟨by kernel_rfl, fun j t ht => by
        rw [Tryd.params3] at ht
        have h3 : t = 25 ∨ t = 26 := by
          rcases j with _ | _ | _ | j
          · left; simpa using ht.symm
          · right; simpa using ht.symm
          · right; simpa using ht.symm
          · simp at ht
        rcases h3 with rfl | rfl
        · exact (show Tryd.prog.wantsStandIn 25 = false by kernel_rfl)
        · exact (show Tryd.prog.wantsStandIn 26 = false by kernel_rfl)⟩)
    (by kernel_rfl)
#print axioms sizingEasier_holds
end Go.Proofs.YtkmpieodjlkooaaDoor
