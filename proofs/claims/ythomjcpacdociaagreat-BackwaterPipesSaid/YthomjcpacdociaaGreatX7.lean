/-
  THE LAW BackwaterPipes HOLDS: for every input it returns true, and each argument reads afterwards as it read before. No conditions.
-/
import Derived.Test.YthomjcpacdociaaGreatRows
import Derived.ProofKit
import Derived.Test.YthomjcpacdociaaGreatX5
import Derived.Test.YthomjcpacdociaaGreatX6
set_option linter.all false
namespace Go.Gv
theorem sl_kn {d : D} (h : HasSh (.sl [.int .i64, .int .i64]) d) : ∃ (b : Bool) (l : List (Int × Int)), d = slx b (l.map knD) := by
  simp only [HasSh] at h
  obtain ⟨es, h1, h2, h3⟩ := h
  obtain ⟨xs, rfl⟩ := rows_map (f := knD) (fun e he => by
    have := h3 e he
    simp only [HasShL, HasSh] at this
    obtain ⟨d, r, rfl, ⟨n, rfl, _⟩, d', r', rfl, ⟨n', rfl, _⟩, rfl⟩ := this
    exact ⟨(n, n'), rfl⟩)
  rcases h1 with rfl | ⟨rfl, h1⟩
  · exact ⟨false, xs, by simp⟩
  · simp at h1
    subst h1
    exact ⟨true, [], rfl⟩
def shSec : List Sh := [.str, .int .i64, .int .i64, .sl [.int .i64, .int .i64], .sl [.int .i64, .int .i64]]
theorem has_sec {ds : List D} (h : HasShL shSec ds) : ∃ s : Sec, ds = secC s := by
  simp only [shSec, HasShL] at h
  obtain ⟨d1, r1, rfl, g1, d2, r2, rfl, g2, d3, r3, rfl, g3, d4, r4, rfl, g4, d5, r5, rfl, g5, rfl⟩ := h
  obtain ⟨b4, l4, rfl⟩ := sl_kn g4
  obtain ⟨b5, l5, rfl⟩ := sl_kn g5
  simp only [HasSh] at g1 g2 g3
  obtain ⟨s, rfl, _⟩ := g1
  obtain ⟨n2, rfl, _⟩ := g2
  obtain ⟨n3, rfl, _⟩ := g3
  exact ⟨⟨s, n2, n3, b4, l4, b5, l5⟩, rfl⟩
def shLnk : List Sh := [.str, .str, .str, .int .i64, .int .i64, .int .i64, .int .i64, .str, .int .i64, .int .i64, .sl [.int .i64, .int .i64]]
theorem has_lnk {ds : List D} (h : HasShL shLnk ds) : ∃ l : Lnk, ds = lnkC l := by
  simp only [shLnk, HasShL] at h
  obtain ⟨d1, r1, rfl, g1, d2, r2, rfl, g2, d3, r3, rfl, g3, d4, r4, rfl, g4, d5, r5, rfl, g5, d6, r6, rfl, g6, d7, r7, rfl, g7, d8, r8, rfl, g8, d9, r9, rfl, g9, d10, r10, rfl, g10, d11, r11, rfl, g11, rfl⟩ := h
  obtain ⟨b, c, rfl⟩ := sl_kn g11
  simp only [HasSh] at g1 g2 g3 g4 g5 g6 g7 g8 g9 g10
  obtain ⟨x1, rfl, _⟩ := g1
  obtain ⟨x2, rfl, _⟩ := g2
  obtain ⟨x3, rfl, _⟩ := g3
  obtain ⟨x4, rfl, _⟩ := g4
  obtain ⟨x5, rfl, _⟩ := g5
  obtain ⟨x6, rfl, _⟩ := g6
  obtain ⟨x7, rfl, _⟩ := g7
  obtain ⟨x8, rfl, _⟩ := g8
  obtain ⟨x9, rfl, _⟩ := g9
  obtain ⟨x10, rfl, _⟩ := g10
  exact ⟨⟨x1, x2, x3, x4, x5, x6, x7, x8, x9, x10, b, c⟩, rfl⟩
section
open Go.ChangeShapes
variable {H : Type} {enc : TypeId × Value → H} {P : Program} {w : World} {base : Nat} {spare : Nat → Bool} {held : Bool}
theorem trodAll_fourR {t0 t1 t2 t3 : TypeId} {args : Array Value} {ds : List (DataW H)} {ps : List MemPlace} (h : DataW.TrodAll enc P w base spare held [t0, t1, t2, t3] args.toList ds ps) :
    ∃ v0 v1 v2 v3 d0 d1 d2 d3 p0 p1 p2 p3, args = #[v0, v1, v2, v3] ∧ ds = [d0, d1, d2, d3] ∧ ps = p0 ++ (p1 ++ (p2 ++ p3)) ∧ DataW.Trod enc P w base spare held t0 v0 d0 p0 ∧ DataW.Trod enc P w base spare held t1 v1 d1 p1 ∧ DataW.Trod enc P w base spare held t2 v2 d2 p2 ∧ DataW.Trod enc P w base spare held t3 v3 d3 p3 := by
  obtain ⟨v0, vs0, d0, ds0, p0, q0, hargs, rfl, rfl, h0, h⟩ := trodAll_cons h
  obtain ⟨v1, vs1, d1, ds1, p1, q1, rfl, rfl, rfl, h1, h⟩ := trodAll_cons h
  obtain ⟨v2, vs2, d2, ds2, p2, q2, rfl, rfl, rfl, h2, h⟩ := trodAll_cons h
  obtain ⟨v3, vs3, d3, ds3, p3, q3, rfl, rfl, rfl, h3, h⟩ := trodAll_cons h
  obtain ⟨rfl, rfl, rfl⟩ := trodAll_nil h
  exact ⟨v0, v1, v2, v3, d0, d1, d2, d3, p0, p1, p2, p3, by cases args; simp_all, rfl, by simp, h0, h1, h2, h3⟩
end
end Go.Gv
namespace Go.Proofs.YthomjcpacdociaaGreat
open Go.ChangeShapes Go.WideShapes Go.ChangeAt Go.RowKit Go.Gv

theorem Tryz.own : ownKnob Tryz.prog.godebug = none := by kernel_rfl
theorem Tryz.laidOut : laidOutB Tryz.prog = true := by kernel_rfl
theorem Tryz.seat : CSound Tryz.prog ⟨Tryz.prog, fun g => TryzTbl.lookup g, fun t => (TryzTys.lookup t).getD 0⟩ (runsC Tryz.prog ⟨Tryz.prog, fun g => TryzTbl.lookup g, fun t => (TryzTys.lookup t).getD 0⟩) ∧ Closed prog (runsC Tryz.prog ⟨Tryz.prog, fun g => TryzTbl.lookup g, fun t => (TryzTys.lookup t).getD 0⟩) :=
  Go.Gv.seat (by kernel_rfl) Tryz.laidOut Tryz_all
theorem Tryz.sh47 : tySh Tryz.prog 10 47 = some shLnk := by kernel_rfl
theorem Tryz.sh49 : tySh Tryz.prog 10 49 = some shSec := by kernel_rfl

set_option maxRecDepth 100000 in
theorem backwaterPipes_lifted (os : Os) (started : os.Started) (H : Type) (enc : TypeId × Value → H) :
    ReturnsInHanded {} Tryz.checked os 4 .any (Rows.backwaterPipesSpec.pre6 enc Tryz.prog Tryz.f4 Rows.backwaterPipesRow.domain false) (Rows.backwaterPipesSpec.post enc Tryz.prog Tryz.f4 false true false false) := by
  refine returnsInHanded_of_change_sized (C := Tryz.checked) Tryz.own started (by kernel_rfl) Tryz.func4
    (ChangeSpec.witness6 (enc := enc) (C := Tryz.checked) false ⟨#[], #[.agg #[.string ⟨#[]⟩, .string ⟨#[]⟩, .string ⟨#[]⟩, .int .i64 0, .int .i64 0, .int .i64 0, .int .i64 0, .string ⟨#[]⟩, .int .i64 0, .int .i64 0, .slice none 0 0], .agg #[.string ⟨#[]⟩, .int .i64 0, .int .i64 0, .slice none 0 0, .slice none 0 0], .int .i64 0, .int .i64 0], []⟩ 8 (by kernel_rfl) (by kernel_rfl) (by kernel_rfl) (by kernel_rfl)) ?_
  intro W base args ds gs before hval0 hW _ hsz0 _
  have hsz : (DataW.weightsEach Tryz.prog (Tryz.f4.params.toList ++ Rows.backwaterPipesSpec.plain.varTypes Tryz.prog) (ds ++ gs)).all (· ≤ reachBytes) = true := hsz0
  clear hsz0
  have hval : ∀ (j : Nat) t v, Tryz.f4.params[j]? = some t → args[j]? = some v → Value.okWide Tryz.prog W .any base t v := hval0
  have hW' := hW
  obtain ⟨p, q, hA0, hV, rfl, hfz, hnd⟩ := hW
  have hA : DataW.TrodAll enc Tryz.prog W 0 (fun _ => true) true Tryz.f4.params.toList args.toList ds p := hA0
  rw [Tryz.params4] at hA hval hsz
  obtain ⟨v0, v1, v2, v3, d0, d1, d2, d3, p0, p1, p2, p3, rfl, rfl, rfl, h0, h1, h2, h3⟩ := trodAll_fourR hA
  obtain ⟨rfl, rfl⟩ := trodVars_none hV
  clear hA0 hval0
  simp only [List.append_nil] at hW'
  simp only [DataW.weightsEach, List.cons_append, List.nil_append, List.all_append, Bool.and_eq_true] at hsz
  have hlt : ∀ x ∈ p0 ++ (p1 ++ (p2 ++ p3)), x.block < W.heap.size := fun x hx => by simpa using hW'.lt x hx
  obtain ⟨c0, s0, r0⟩ := arg_struct (F := ⟨Tryz.prog, fun g => TryzTbl.lookup g, fun t => (TryzTys.lookup t).getD 0⟩) Tryz.underlying47 Tryz.sh47 (hval 0 47 v0 rfl rfl) h0 hsz.1
  obtain ⟨l, rfl⟩ := has_lnk s0
  obtain ⟨c1, s1, r1⟩ := arg_struct (F := ⟨Tryz.prog, fun g => TryzTbl.lookup g, fun t => (TryzTys.lookup t).getD 0⟩) Tryz.underlying49 Tryz.sh49 (hval 1 49 v1 rfl rfl) h1 hsz.2.1
  obtain ⟨s, rfl⟩ := has_sec s1
  obtain ⟨n2, _, r2⟩ := arg_int (F := ⟨Tryz.prog, fun g => TryzTbl.lookup g, fun t => (TryzTys.lookup t).getD 0⟩) Tryz.underlying3 (hval 2 3 v2 rfl rfl) h2
  obtain ⟨n3, _, r3⟩ := arg_int (F := ⟨Tryz.prog, fun g => TryzTbl.lookup g, fun t => (TryzTys.lookup t).getD 0⟩) Tryz.underlying3 (hval 3 3 v3 rfl rfl) h3
  have hrun := (Pipes_c Tryz.seat.2 l s n2 n3).2 4 rfl
  have hargs : ∀ (W' : World), Below W.heap.size W W' → DataW.Trod enc Tryz.prog W' 0 (fun b => decide (b < W.heap.size)) true 47 v0 d0 p0 :=
    fun W' hn => Below.trod Tryz.laidOut (by kernel_rfl) (of_decide_eq_true (by kernel_rfl)) h0 hn (fun x hx => hlt x (by simp [hx]))
  have hargs1 : ∀ (W' : World), Below W.heap.size W W' → DataW.Trod enc Tryz.prog W' 0 (fun b => decide (b < W.heap.size)) true 49 v1 d1 p1 :=
    fun W' hn => Below.trod Tryz.laidOut (by kernel_rfl) (of_decide_eq_true (by kernel_rfl)) h1 hn (fun x hx => hlt x (by simp [hx]))
  have hargs2 : ∀ (W' : World), Below W.heap.size W W' → DataW.Trod enc Tryz.prog W' 0 (fun b => decide (b < W.heap.size)) true 3 v2 d2 p2 :=
    fun W' hn => Below.trod Tryz.laidOut (by kernel_rfl) (of_decide_eq_true (by kernel_rfl)) h2 hn (fun x hx => hlt x (by simp [hx]))
  have hargs3 : ∀ (W' : World), Below W.heap.size W W' → DataW.Trod enc Tryz.prog W' 0 (fun b => decide (b < W.heap.size)) true 3 v3 d3 p3 :=
    fun W' hn => Below.trod Tryz.laidOut (by kernel_rfl) (of_decide_eq_true (by kernel_rfl)) h3 hn (fun x hx => hlt x (by simp [hx]))
  have hcall := hrun (cellM W) W [v0, v1, v2, v3] (fun p v h => h) (by simp only [RepL]; exact ⟨v0, _, rfl, r0, v1, _, rfl, r1, v2, _, rfl, r2, v3, _, rfl, r3, rfl⟩)
  refine hcall.mono fun e W' ⟨v, M', he, hn, _, _, _, hv⟩ => ?_
  simp only [RepC] at hv
  subst hv
  refine ⟨_, he, _, _, _, [], p0 ++ (p1 ++ (p2 ++ p3)), [], hW', trodAll_mk1 (shut_bool Tryz.underlying4 _), ⟨p0, _, hargs _ hn, ⟨p1, _, hargs1 _ hn, trodAll_mk2 (hargs2 _ hn) (hargs3 _ hn), rfl⟩, rfl⟩, rfl, hn.frame _, fun h => by cases h⟩
theorem backwaterPipes_holds : Rows.BackwaterPipesSaid :=
  OpenClaim.holds_of_wide 4 Tryz.f4 rfl rfl rfl rfl rfl rfl rfl ⟨rfl, rfl, rfl, rfl, rfl⟩ rfl rfl rfl rfl rfl (by kernel_rfl) Tryz.func4 (by kernel_rfl)
    (of_decide_eq_true (by kernel_rfl)) (by unfold Func.isWrapper; first | (rw [if_pos (by decide +kernel)]; kernel_rfl) | (rw [if_neg (by decide +kernel)]; exact ⟨rfl, rfl⟩))
    (fun os started H enc _ => backwaterPipes_lifted os started H enc)
#print axioms backwaterPipes_holds
end Go.Proofs.YthomjcpacdociaaGreat
