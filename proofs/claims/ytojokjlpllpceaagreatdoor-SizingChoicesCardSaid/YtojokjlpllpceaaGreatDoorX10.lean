/-
  THE LAW SizingChoices HOLDS: for every input it returns true, and each argument reads afterwards as it read before; the tables of the library that the row lists are tied to the program's text. No conditions of ours.
-/
import Derived.Test.YtojokjlpllpceaaGreatDoorCards
import Derived.Test.YtojokjlpllpceaaGreatDoorTie
import Derived.SevenTiedAt
import Derived.ProofKit
import Derived.LaidMore
import Derived.OpenShut
import Derived.Stop.Joined
import Derived.Test.YtojokjlpllpceaaGreatDoorX7
import Derived.Test.YtojokjlpllpceaaGreatDoorX9
set_option linter.all false
namespace Go.Gv
theorem sl_int {d : D} (h : HasSh (.sl [.int .i64]) d) : ∃ x : SlI, d = slI x ∧ x.l.length < 140737488355328 := by
  simp only [HasSh] at h
  obtain ⟨es, h1, h2, h3⟩ := h
  obtain ⟨xs, rfl⟩ := rows_map (f := fun n : Int => [D.int .i64 n]) (fun e he => by
    have := h3 e he
    simp only [HasShL, HasSh] at this
    obtain ⟨d, r, rfl, ⟨n, rfl, _⟩, rfl⟩ := this
    exact ⟨n, rfl⟩)
  rcases h1 with rfl | ⟨rfl, h1⟩
  · exact ⟨⟨false, xs⟩, by simp, by simpa using h2⟩
  · simp at h1
    subst h1
    exact ⟨⟨true, []⟩, rfl, by simp⟩
theorem sl_kn {d : D} (h : HasSh (.sl [.int .i64, .int .i64]) d) : ∃ (b : Bool) (l : List (Int × Int)), d = slx b (l.map knD) := by
  simp only [HasSh] at h
  obtain ⟨es, h1, h2, h3⟩ := h
  obtain ⟨xs, rfl⟩ := rows_map (f := knD) (fun e he => by
    have := h3 e he
    simp only [HasShL, HasSh] at this
    obtain ⟨d, r, rfl, ⟨n, rfl, _⟩, d', r', rfl, ⟨n', rfl, _⟩, rfl⟩ := this
    exact ⟨(n, n'), rfl⟩)
  rcases h1 with rfl | ⟨rfl, h1⟩
  · exact ⟨false, xs, by simp⟩
  · simp at h1
    subst h1
    exact ⟨true, [], rfl⟩
def shSec : List Sh := [.str, .int .i64, .int .i64, .sl [.int .i64, .int .i64], .sl [.int .i64, .int .i64]]
theorem sl_sec {d : D} (h : HasSh (.sl shSec) d) : ∃ (b : Bool) (l : List Sec), d = slx b (l.map secC) := by
  simp only [HasSh] at h
  obtain ⟨es, h1, h2, h3⟩ := h
  obtain ⟨xs, rfl⟩ := rows_map (f := secC) (fun e he => by
    have := h3 e he
    simp only [shSec, HasShL] at this
    obtain ⟨d1, r1, rfl, g1, d2, r2, rfl, g2, d3, r3, rfl, g3, d4, r4, rfl, g4, d5, r5, rfl, g5, rfl⟩ := this
    obtain ⟨b4, l4, rfl⟩ := sl_kn g4
    obtain ⟨b5, l5, rfl⟩ := sl_kn g5
    simp only [HasSh] at g1 g2 g3
    obtain ⟨s, rfl, _⟩ := g1
    obtain ⟨n2, rfl, _⟩ := g2
    obtain ⟨n3, rfl, _⟩ := g3
    exact ⟨⟨s, n2, n3, b4, l4, b5, l5⟩, rfl⟩)
  rcases h1 with rfl | ⟨rfl, h1⟩
  · exact ⟨false, xs, by simp⟩
  · simp at h1
    subst h1
    exact ⟨true, [], rfl⟩
def shJob : List Sh := [.sl [.int .i64], .sl [.int .i64], .sl [.int .i64], .sl [.int .i64], .sl [.int .i64], .sl shSec]
theorem has_job {ds : List D} (h : HasShL shJob ds) : ∃ j : Job, ds = jobC j := by
  simp only [shJob, HasShL] at h
  obtain ⟨d1, r1, rfl, g1, d2, r2, rfl, g2, d3, r3, rfl, g3, d4, r4, rfl, g4, d5, r5, rfl, g5, d6, r6, rfl, g6, rfl⟩ := h
  obtain ⟨x1, rfl, _⟩ := sl_int g1
  obtain ⟨x2, rfl, _⟩ := sl_int g2
  obtain ⟨x3, rfl, _⟩ := sl_int g3
  obtain ⟨x4, rfl, _⟩ := sl_int g4
  obtain ⟨x5, rfl, _⟩ := sl_int g5
  obtain ⟨b, l, rfl⟩ := sl_sec g6
  exact ⟨⟨x1, x2, x3, x4, x5, b, l⟩, rfl⟩
theorem sl_ints {d : D} (h : HasSh (.sl [.int .i64]) d) : ∃ (b : Bool) (l : List Int), d = slx b (l.map fun n => [.int .i64 n]) ∧ l.length < 2 ^ 62 := by
  obtain ⟨x, rfl, h⟩ := sl_int h
  exact ⟨x.n, x.l, by rw [slI], by omega⟩
theorem dec_same (n : Nat) (hn : n < 100) : Lib.decDigits n = decE n := by
  unfold decE
  by_cases h : n < 10
  · rw [Lib.decDigits, dif_pos h, dcE, if_pos h]
    simp [digE, Nat.mod_eq_of_lt h]
  · rw [Lib.decDigits, dif_neg h, Lib.decDigits, dif_pos (by omega), dcE, if_neg h, dcE, if_pos (by omega)]
    simp [digE, Nat.mod_eq_of_lt (show n / 10 < 10 by omega)]
section
open Go.ChangeShapes
variable {H : Type} {enc : TypeId × Value → H} {P : Program} {w : World} {base : Nat} {spare : Nat → Bool} {held : Bool}
theorem trodAll_args {t0 t1 : TypeId} {args : Array Value} {ds : List (DataW H)} {ps : List MemPlace} (h : DataW.TrodAll enc P w base spare held [t0, t1] args.toList ds ps) :
    ∃ v0 v1 d0 d1 p0 p1, args = #[v0, v1] ∧ ds = [d0, d1] ∧ ps = p0 ++ (p1) ∧ DataW.Trod enc P w base spare held t0 v0 d0 p0 ∧ DataW.Trod enc P w base spare held t1 v1 d1 p1 := by
  obtain ⟨v0, vs0, d0, ds0, p0, q0, hargs, rfl, rfl, h0, h⟩ := trodAll_cons h
  obtain ⟨v1, vs1, d1, ds1, p1, q1, rfl, rfl, rfl, h1, h⟩ := trodAll_cons h
  obtain ⟨rfl, rfl, rfl⟩ := trodAll_nil h
  exact ⟨v0, v1, d0, d1, p0, p1, by cases args; simp_all, rfl, by simp, h0, h1⟩
end
end Go.Gv
namespace Go.Proofs.YtojokjlpllpceaaGreatDoor
open Go.ChangeShapes Go.WideShapes Go.ChangeAt Go.RowKit Go.Gv

theorem Tryz.own : ownKnob Tryz.prog.godebug = none := by kernel_rfl
theorem Tryz.laidOut : laidOutB Tryz.prog = true := by kernel_rfl
theorem Tryz.seat : CSound Tryz.prog ⟨Tryz.prog, fun g => TryzTbl.lookup g, fun t => (TryzTys.lookup t).getD 0⟩ (runsC Tryz.prog ⟨Tryz.prog, fun g => TryzTbl.lookup g, fun t => (TryzTys.lookup t).getD 0⟩) ∧ Closed prog (runsC Tryz.prog ⟨Tryz.prog, fun g => TryzTbl.lookup g, fun t => (TryzTys.lookup t).getD 0⟩) :=
  Go.Gv.seat (by kernel_rfl) Tryz.laidOut Tryz_all
theorem Tryz.sh22 : tySh Tryz.prog 10 22 = some [.sl [.int .i64]] := by kernel_rfl
theorem Tryz.sh25 : tySh Tryz.prog 10 25 = some shJob := by kernel_rfl
theorem Tryz.itoa (n : Nat) (hn : n < 100) : runsC Tryz.prog ⟨Tryz.prog, fun g => TryzTbl.lookup g, fun t => (TryzTys.lookup t).getD 0⟩ 127 [.int .i64 n] (.str (Lib.decDigits n)) [] := by
  refine runsC_same fun f hf M w vs r => ?_
  have e : f = 25 := Option.some.inj (hf.symm.trans (show TryzTbl.lookup 127 = some 25 from rfl))
  subst e
  simp only [RepL, RepC] at r
  obtain ⟨v, r', rfl, rfl, rfl⟩ := r
  exact ⟨.string ⟨(Lib.decDigits n).toArray⟩, by simp only [RepC], Tryz.strconv_Itoa_small n hn w⟩

/-- The door's own heap meets the condition. -/
theorem Tryz.met (os : Os) (args : Array Value) : laidMetH Tryz.prog Rows.sizingChoicesRow.laid ((World.doorLaid Tryz.prog 24 os).forCall (fun _ _ => 0) ⟨#[], args, []⟩).memory :=
  laidMetH_of_parts3 (fuel := 8) (laidMet_of_run' 8 (by kernel_rfl) (by kernel_rfl)) (by kernel_rfl) (by kernel_rfl)

set_option maxRecDepth 100000 in
theorem sizingChoices_lifted (os : Os) (started : os.Started) (H : Type) (enc : TypeId × Value → H) :
    ReturnsInHanded {} Tryz.checked os 3 .any (fun w args => (Rows.sizingChoicesSpec.pre enc Tryz.prog Tryz.f3 [] false w args ∧ laidMetH Tryz.prog Rows.sizingChoicesRow.laid w) ∧ sizedMet enc Tryz.prog Tryz.f3 (OpenSpec.ofChange Rows.sizingChoicesSpec) false w args) (Rows.sizingChoicesSpec.post enc Tryz.prog Tryz.f3 false true false false) := by
  refine returnsInHanded_of_change_and (C := Tryz.checked) (X := fun w _ => laidMetH Tryz.prog Rows.sizingChoicesRow.laid w) (fun _ _ _ hh h => h.of_heap hh) Tryz.own started (by kernel_rfl) Tryz.func3
    (ChangeSpec.witness_shaped (enc := enc) (C := Tryz.checked) (os := os) (X := fun w _ => laidMetH Tryz.prog Rows.sizingChoicesRow.laid w) false (World.doorLaid Tryz.prog 24 os) #[.agg #[.slice none 0 0, .slice none 0 0, .slice none 0 0, .slice none 0 0, .slice none 0 0, .slice none 0 0], .slice none 0 0] 8 rfl (World.shaped_of_RefB (by kernel_rfl) (by kernel_rfl)) (by kernel_rfl) (by kernel_rfl) (by kernel_rfl) (Tryz.met os _)) ?_
  intro W base args ds gs before hval0 hW _ hsz0 _ _
  have hsz : (DataW.weightsEach Tryz.prog (Tryz.f3.params.toList ++ Rows.sizingChoicesSpec.plain.varTypes Tryz.prog) (ds ++ gs)).all (· ≤ reachBytes) = true := hsz0
  clear hsz0
  have hval : ∀ (j : Nat) t v, Tryz.f3.params[j]? = some t → args[j]? = some v → Value.okWide Tryz.prog W .any base t v := hval0
  have hW' := hW
  obtain ⟨p, q, hA0, hV, rfl, hfz, hnd⟩ := hW
  have hA : DataW.TrodAll enc Tryz.prog W 0 (fun _ => true) true Tryz.f3.params.toList args.toList ds p := hA0
  rw [Tryz.params3] at hA hval hsz
  obtain ⟨v0, v1, d0, d1, p0, p1, rfl, rfl, rfl, h0, h1⟩ := trodAll_args hA
  obtain ⟨rfl, rfl⟩ := trodVars_none hV
  clear hA0 hval0
  simp only [List.append_nil] at hW'
  simp only [DataW.weightsEach, List.cons_append, List.nil_append, List.all_append, Bool.and_eq_true] at hsz
  have hlt : ∀ x ∈ p0 ++ (p1), x.block < W.heap.size := fun x hx => by simpa using hW'.lt x (by simpa using hx)
  obtain ⟨c0, s0, r0⟩ := arg_struct (F := ⟨Tryz.prog, fun g => TryzTbl.lookup g, fun t => (TryzTys.lookup t).getD 0⟩) Tryz.underlying25 Tryz.sh25 (hval 0 25 v0 rfl rfl) h0 hsz.1
  obtain ⟨j0, rfl⟩ := has_job s0
  obtain ⟨c1, s1, r1⟩ := arg_slice (F := ⟨Tryz.prog, fun g => TryzTbl.lookup g, fun t => (TryzTys.lookup t).getD 0⟩) Tryz.underlying22 Tryz.sh22 (hval 1 22 v1 rfl rfl) h1 hsz.2.1
  obtain ⟨b1, l1, rfl, hl1⟩ := sl_ints s1
  have hrun := (SizingChoices_c Tryz.seat.2 Lib.decDigits Tryz.itoa dec_same j0 b1 l1 hl1).2 3 rfl
  have hargs0 : ∀ (W' : World), Below W.heap.size W W' → DataW.Trod enc Tryz.prog W' 0 (fun b => decide (b < W.heap.size)) true 25 v0 d0 p0 :=
    fun W' hn => Below.trod Tryz.laidOut (by kernel_rfl) (of_decide_eq_true (by kernel_rfl)) h0 hn (fun x hx => hlt x (by simp [hx]))
  have hargs1 : ∀ (W' : World), Below W.heap.size W W' → DataW.Trod enc Tryz.prog W' 0 (fun b => decide (b < W.heap.size)) true 22 v1 d1 p1 :=
    fun W' hn => Below.trod Tryz.laidOut (by kernel_rfl) (of_decide_eq_true (by kernel_rfl)) h1 hn (fun x hx => hlt x (by simp [hx]))
  have hcall := hrun (cellM W) W [v0, v1] (fun p v h => h) (by simp only [RepL]; exact ⟨v0, _, rfl, r0, v1, _, rfl, r1, rfl⟩)
  refine hcall.mono fun e W' ⟨v, M', he, hn0, _, _, _, hv⟩ => ?_
  have hn := hn0.below
  simp only [RepC] at hv
  subst hv
  refine ⟨_, he, _, _, _, [], p0 ++ (p1), [], hW', trodAll_mk1 (shut_bool Tryz.underlying4 _), ⟨p0, _, hargs0 _ hn, trodAll_mk1 (hargs1 _ hn), rfl⟩, rfl, hn.frame _, fun h => by cases h⟩

theorem sizingChoices_row : Rows.SizingChoicesSaid :=
  OpenClaim.holds_of_wide 3 Tryz.f3 rfl rfl rfl rfl rfl rfl rfl ⟨rfl, rfl, rfl, rfl, rfl⟩ rfl rfl rfl rfl rfl (by kernel_rfl) Tryz.func3 (by kernel_rfl)
    (of_decide_eq_true (by kernel_rfl)) (by unfold Func.isWrapper; first | (rw [if_pos (by decide +kernel)]; kernel_rfl) | (rw [if_neg (by decide +kernel)]; exact ⟨rfl, rfl⟩))
    (fun os started H enc _ => sizingChoices_lifted os started H enc)
theorem sizingChoices_holds : Rows.SizingChoicesCardSaid :=
  Claim7.holds_tied_plain_at .later [] [.data, .data, .data] true (true, "3ebadc52af0b1fd6c3238bcfc3384a4d3c28a5a3a1532b1c0911a8a95a985cdd") false
    sizingChoices_row (fun _ h => by cases h) (by kernel_rfl) (fun _ h => by cases h) sizingChoices_row_tie rfl ⟨rfl, rfl⟩ (by kernel_rfl) rfl
    (fun f fn hf hfn => by
      obtain rfl : f = 3 := Option.some.inj ((show Tryz.prog.funcNamed "sewershed/sewershedlaw47.SizingChoices" = some 3 by kernel_rfl).symm.trans hf) |>.symm
      obtain rfl : fn = Tryz.f3 := (Option.some.inj (Tryz.func3.symm.trans hfn)).symm
      exact ⟨by kernel_rfl, fun j t ht => by
        rw [Tryz.params3] at ht
        have h3 : t = 25 ∨ t = 22 := by
          rcases j with _ | _ | j
          · left; simpa using ht.symm
          · right; simpa using ht.symm
          · simp at ht
        rcases h3 with rfl | rfl
        · exact (show Tryz.prog.wantsStandIn 25 = false by kernel_rfl)
        · exact (show Tryz.prog.wantsStandIn 22 = false by kernel_rfl)⟩)
    (by kernel_rfl)
#print axioms sizingChoices_holds
end Go.Proofs.YtojokjlpllpceaaGreatDoor
