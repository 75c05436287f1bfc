/-
  THE LAW SizingSolves HOLDS: for every input it returns true, and each argument reads afterwards as it read before. No conditions.
-/
import Derived.Test.YthomjcpacdociaaGreatRows
import Derived.ProofKit
import Derived.Test.YthomjcpacdociaaGreatX5
import Derived.Test.YthomjcpacdociaaGreatX7
set_option linter.all false
namespace Go.Gv
theorem sl_int {d : D} (h : HasSh (.sl [.int .i64]) d) : ∃ x : SlI, d = slI x ∧ x.l.length < 140737488355328 := by
  simp only [HasSh] at h
  obtain ⟨es, h1, h2, h3⟩ := h
  obtain ⟨xs, rfl⟩ := rows_map (f := fun n : Int => [D.int .i64 n]) (fun e he => by
    have := h3 e he
    simp only [HasShL, HasSh] at this
    obtain ⟨d, r, rfl, ⟨n, rfl, _⟩, rfl⟩ := this
    exact ⟨n, rfl⟩)
  rcases h1 with rfl | ⟨rfl, h1⟩
  · exact ⟨⟨false, xs⟩, by simp, by simpa using h2⟩
  · simp at h1
    subst h1
    exact ⟨⟨true, []⟩, rfl, by simp⟩
theorem sl_kn {d : D} (h : HasSh (.sl [.int .i64, .int .i64]) d) : ∃ (b : Bool) (l : List (Int × Int)), d = slx b (l.map knD) := by
  simp only [HasSh] at h
  obtain ⟨es, h1, h2, h3⟩ := h
  obtain ⟨xs, rfl⟩ := rows_map (f := knD) (fun e he => by
    have := h3 e he
    simp only [HasShL, HasSh] at this
    obtain ⟨d, r, rfl, ⟨n, rfl, _⟩, d', r', rfl, ⟨n', rfl, _⟩, rfl⟩ := this
    exact ⟨(n, n'), rfl⟩)
  rcases h1 with rfl | ⟨rfl, h1⟩
  · exact ⟨false, xs, by simp⟩
  · simp at h1
    subst h1
    exact ⟨true, [], rfl⟩
def shSec : List Sh := [.str, .int .i64, .int .i64, .sl [.int .i64, .int .i64], .sl [.int .i64, .int .i64]]
theorem sl_sec {d : D} (h : HasSh (.sl shSec) d) : ∃ (b : Bool) (l : List Sec), d = slx b (l.map secC) := by
  simp only [HasSh] at h
  obtain ⟨es, h1, h2, h3⟩ := h
  obtain ⟨xs, rfl⟩ := rows_map (f := secC) (fun e he => by
    have := h3 e he
    simp only [shSec, HasShL] at this
    obtain ⟨d1, r1, rfl, g1, d2, r2, rfl, g2, d3, r3, rfl, g3, d4, r4, rfl, g4, d5, r5, rfl, g5, rfl⟩ := this
    obtain ⟨b4, l4, rfl⟩ := sl_kn g4
    obtain ⟨b5, l5, rfl⟩ := sl_kn g5
    simp only [HasSh] at g1 g2 g3
    obtain ⟨s, rfl, _⟩ := g1
    obtain ⟨n2, rfl, _⟩ := g2
    obtain ⟨n3, rfl, _⟩ := g3
    exact ⟨⟨s, n2, n3, b4, l4, b5, l5⟩, rfl⟩)
  rcases h1 with rfl | ⟨rfl, h1⟩
  · exact ⟨false, xs, by simp⟩
  · simp at h1
    subst h1
    exact ⟨true, [], rfl⟩
def shJob : List Sh := [.sl [.int .i64], .sl [.int .i64], .sl [.int .i64], .sl [.int .i64], .sl [.int .i64], .sl shSec]
theorem has_job {ds : List D} (h : HasShL shJob ds) : ∃ j : Job, ds = jobC j := by
  simp only [shJob, HasShL] at h
  obtain ⟨d1, r1, rfl, g1, d2, r2, rfl, g2, d3, r3, rfl, g3, d4, r4, rfl, g4, d5, r5, rfl, g5, d6, r6, rfl, g6, rfl⟩ := h
  obtain ⟨x1, rfl, _⟩ := sl_int g1
  obtain ⟨x2, rfl, _⟩ := sl_int g2
  obtain ⟨x3, rfl, _⟩ := sl_int g3
  obtain ⟨x4, rfl, _⟩ := sl_int g4
  obtain ⟨x5, rfl, _⟩ := sl_int g5
  obtain ⟨b, l, rfl⟩ := sl_sec g6
  exact ⟨⟨x1, x2, x3, x4, x5, b, l⟩, rfl⟩
end Go.Gv
namespace Go.Proofs.YthomjcpacdociaaGreat
open Go.ChangeShapes Go.WideShapes Go.ChangeAt Go.RowKit Go.Gv

theorem Tryz.own : ownKnob Tryz.prog.godebug = none := by kernel_rfl
theorem Tryz.laidOut : laidOutB Tryz.prog = true := by kernel_rfl
theorem Tryz.seat : CSound Tryz.prog ⟨Tryz.prog, fun g => TryzTbl.lookup g, fun t => (TryzTys.lookup t).getD 0⟩ (runsC Tryz.prog ⟨Tryz.prog, fun g => TryzTbl.lookup g, fun t => (TryzTys.lookup t).getD 0⟩) ∧ Closed prog (runsC Tryz.prog ⟨Tryz.prog, fun g => TryzTbl.lookup g, fun t => (TryzTys.lookup t).getD 0⟩) :=
  Go.Gv.seat (by kernel_rfl) Tryz.laidOut Tryz_all
theorem Tryz.sh25 : tySh Tryz.prog 10 25 = some shJob := by kernel_rfl

set_option maxRecDepth 100000 in
theorem sizingSolves_lifted (os : Os) (started : os.Started) (H : Type) (enc : TypeId × Value → H) :
    ReturnsInHanded {} Tryz.checked os 3 .any (Rows.sizingSolvesSpec.pre6 enc Tryz.prog Tryz.f3 Rows.sizingSolvesRow.domain false) (Rows.sizingSolvesSpec.post enc Tryz.prog Tryz.f3 false true false false) := by
  refine returnsInHanded_of_change_sized (C := Tryz.checked) Tryz.own started (by kernel_rfl) Tryz.func3
    (ChangeSpec.witness6 (enc := enc) (C := Tryz.checked) false ⟨#[], #[.agg #[.slice none 0 0, .slice none 0 0, .slice none 0 0, .slice none 0 0, .slice none 0 0, .slice none 0 0], .int .i64 0], []⟩ 8 (by kernel_rfl) (by kernel_rfl) (by kernel_rfl) (by kernel_rfl)) ?_
  intro W base args ds gs before hval0 hW _ hsz0 _
  have hsz : (DataW.weightsEach Tryz.prog (Tryz.f3.params.toList ++ Rows.sizingSolvesSpec.plain.varTypes Tryz.prog) (ds ++ gs)).all (· ≤ reachBytes) = true := hsz0
  clear hsz0
  have hval : ∀ (j : Nat) t v, Tryz.f3.params[j]? = some t → args[j]? = some v → Value.okWide Tryz.prog W .any base t v := hval0
  have hW' := hW
  obtain ⟨p, q, hA0, hV, rfl, hfz, hnd⟩ := hW
  have hA : DataW.TrodAll enc Tryz.prog W 0 (fun _ => true) true Tryz.f3.params.toList args.toList ds p := hA0
  rw [Tryz.params3] at hA hval hsz
  obtain ⟨v0, v1, d0, d1, p0, p1, rfl, rfl, rfl, h0, h1⟩ := trodAll_two hA
  obtain ⟨rfl, rfl⟩ := trodVars_none hV
  clear hA0 hval0
  simp only [List.append_nil] at hW'
  simp only [DataW.weightsEach, List.cons_append, List.nil_append, List.all_append, Bool.and_eq_true] at hsz
  have hlt : ∀ x ∈ p0 ++ p1, x.block < W.heap.size := fun x hx => by simpa using hW'.lt x hx
  obtain ⟨c0, s0, r0⟩ := arg_struct (F := ⟨Tryz.prog, fun g => TryzTbl.lookup g, fun t => (TryzTys.lookup t).getD 0⟩) Tryz.underlying25 Tryz.sh25 (hval 0 25 v0 rfl rfl) h0 hsz.1
  obtain ⟨j, rfl⟩ := has_job s0
  obtain ⟨n1, _, r1⟩ := arg_int (F := ⟨Tryz.prog, fun g => TryzTbl.lookup g, fun t => (TryzTys.lookup t).getD 0⟩) Tryz.underlying3 (hval 1 3 v1 rfl rfl) h1
  have hrun := (SizingSolves_c Tryz.seat.2 j n1).2 3 rfl
  have hargs : ∀ (W' : World), Below W.heap.size W W' → DataW.Trod enc Tryz.prog W' 0 (fun b => decide (b < W.heap.size)) true 25 v0 d0 p0 :=
    fun W' hn => Below.trod Tryz.laidOut (by kernel_rfl) (of_decide_eq_true (by kernel_rfl)) h0 hn (fun x hx => hlt x (by simp [hx]))
  have hargs1 : ∀ (W' : World), Below W.heap.size W W' → DataW.Trod enc Tryz.prog W' 0 (fun b => decide (b < W.heap.size)) true 3 v1 d1 p1 :=
    fun W' hn => Below.trod Tryz.laidOut (by kernel_rfl) (of_decide_eq_true (by kernel_rfl)) h1 hn (fun x hx => hlt x (by simp [hx]))
  have hcall := hrun (cellM W) W [v0, v1] (fun p v h => h) (by simp only [RepL]; exact ⟨v0, _, rfl, r0, v1, _, rfl, r1, rfl⟩)
  refine hcall.mono fun e W' ⟨v, M', he, hn, _, _, _, hv⟩ => ?_
  simp only [RepC] at hv
  subst hv
  refine ⟨_, he, _, _, _, [], p0 ++ p1, [], hW', trodAll_mk1 (shut_bool Tryz.underlying4 _), trodAll_mk2 (hargs _ hn) (hargs1 _ hn), rfl, hn.frame _, fun h => by cases h⟩
theorem sizingSolves_holds : Rows.SizingSolvesSaid :=
  OpenClaim.holds_of_wide 3 Tryz.f3 rfl rfl rfl rfl rfl rfl rfl ⟨rfl, rfl, rfl, rfl, rfl⟩ rfl rfl rfl rfl rfl (by kernel_rfl) Tryz.func3 (by kernel_rfl)
    (of_decide_eq_true (by kernel_rfl)) (by unfold Func.isWrapper; first | (rw [if_pos (by decide +kernel)]; kernel_rfl) | (rw [if_neg (by decide +kernel)]; exact ⟨rfl, rfl⟩))
    (fun os started H enc _ => sizingSolves_lifted os started H enc)
#print axioms sizingSolves_holds
end Go.Proofs.YthomjcpacdociaaGreat
