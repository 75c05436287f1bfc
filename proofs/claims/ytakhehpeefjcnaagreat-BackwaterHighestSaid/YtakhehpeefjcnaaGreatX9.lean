/-
 THE LAW BackwaterHighest HOLDS: for every input it returns true, and each argument reads afterwards as it read before. No conditions.
-/
import Derived.Test.YtakhehpeefjcnaaGreatRows
import Derived.ProofKit
import Derived.Test.YtakhehpeefjcnaaGreatX6
import Derived.Test.YtakhehpeefjcnaaGreatX8
set_option linter.all false
namespace Go.Gv
theorem arg_str {P : Program} {F : Fid} {M : Mem} {w : World} {t : TypeId} {base : Nat} {v : Value} (hu : P.underlying t = some .string) (hv : Value.okWide P w .any base t v) : ∃ s : List UInt8, af F M (.str s) v := by
 obtain ⟨s, rfl⟩ := WideShapes.okWide_string hu hv
 exact ⟨s.data.toList, by simp only [af]⟩
theorem sl_kn {d : D} (h : dw (.sl [.int .i64, .int .i64]) d) : ∃ (b : Bool) (l : List (Int × Int)), d = slx b (l.map knD) /\ l.length < 2 ^ 62 := by
 simp only [dw] at h
 obtain ⟨es, h1, h2, h3⟩ := h
 obtain ⟨xs, rfl⟩ := nx (f := knD) (fun e he => by
  have := h3 e he
  simp only [bN, dw] at this
  obtain ⟨d, r, rfl, ⟨n, rfl, _⟩, d', r', rfl, ⟨n', rfl, _⟩, rfl⟩ := this
  exact ⟨(n, n'), rfl⟩)
 have hl : xs.length < 2 ^ 62 := by rw [List.length_map] at h2; omega
 rcases h1 with rfl | ⟨rfl, h1⟩
 ·exact ⟨false, xs, by simp, hl⟩
 ·simp at h1
  subst h1
  exact ⟨true, [], rfl, by simp⟩
def shNod : List Sh := [.str, .int .i64, .int .i64, .int .i64, .int .i64, .int .i64, .sl [.int .i64, .int .i64], .bool, .int .i64]
def shLnk : List Sh := [.str, .str, .str, .int .i64, .int .i64, .int .i64, .int .i64, .str, .int .i64, .int .i64, .sl [.int .i64, .int .i64]]
theorem sl_nod {d : D} (h : dw (.sl shNod) d) : ∃ (b : Bool) (l : List Nod), d = slx b (l.map a8) /\ l.length < 2 ^ 62 /\ ∀ x ∈ l, x.shape.length < 2 ^ 62 := by
 simp only [dw] at h
 obtain ⟨es, h1, h2, h3⟩ := h
 obtain ⟨xs, hx, rfl⟩ : ∃ xs : List Nod, (∀ x ∈ xs, x.shape.length < 2 ^ 62) /\ es = xs.map a8 := by
  clear h1 h2
  induction es with
  | nil => exact ⟨[], by simp, rfl⟩
  | cons e es ih =>
   obtain ⟨xs, hx, rfl⟩ := ih (fun e he => h3 e (by simp [he]))
   have := h3 e (by simp)
   simp only [shNod, bN] at this
   obtain ⟨d1, r1, rfl, g1, d2, r2, rfl, g2, d3, r3, rfl, g3, d4, r4, rfl, g4, d5, r5, rfl, g5, d6, r6, rfl, g6, d7, r7, rfl, g7, d8, r8, rfl, g8, d9, r9, rfl, g9, rfl⟩ := this
   obtain ⟨b7, l7, rfl, hl7⟩ := sl_kn g7
   simp only [dw] at g1 g2 g3 g4 g5 g6 g8 g9
   obtain ⟨s, rfl, _⟩ := g1
   obtain ⟨n2, rfl, _⟩ := g2
   obtain ⟨n3, rfl, _⟩ := g3
   obtain ⟨n4, rfl, _⟩ := g4
   obtain ⟨n5, rfl, _⟩ := g5
   obtain ⟨n6, rfl, _⟩ := g6
   obtain ⟨n8, rfl⟩ := g8
   obtain ⟨n9, rfl, _⟩ := g9
   exact ⟨⟨s, n2, n3, n4, n5, n6, b7, l7, n8, n9⟩ :: xs, by simpa using ⟨hl7, hx⟩, rfl⟩
 have hl : xs.length < 2 ^ 62 := by rw [List.length_map] at h2; omega
 rcases h1 with rfl | ⟨rfl, h1⟩
 ·exact ⟨false, xs, by simp, hl, hx⟩
 ·simp at h1
  subst h1
  exact ⟨true, [], rfl, by simp, by simp⟩
theorem sl_lnk {d : D} (h : dw (.sl shLnk) d) : ∃ (b : Bool) (l : List Lnk), d = slx b (l.map aJ) /\ l.length < 2 ^ 62 /\ ∀ x ∈ l, x.curve.length < 2 ^ 62 := by
 simp only [dw] at h
 obtain ⟨es, h1, h2, h3⟩ := h
 obtain ⟨xs, hx, rfl⟩ : ∃ xs : List Lnk, (∀ x ∈ xs, x.curve.length < 2 ^ 62) /\ es = xs.map aJ := by
  clear h1 h2
  induction es with
  | nil => exact ⟨[], by simp, rfl⟩
  | cons e es ih =>
   obtain ⟨xs, hx, rfl⟩ := ih (fun e he => h3 e (by simp [he]))
   have := h3 e (by simp)
   simp only [shLnk, bN] at this
   obtain ⟨d1, r1, rfl, g1, d2, r2, rfl, g2, d3, r3, rfl, g3, d4, r4, rfl, g4, d5, r5, rfl, g5, d6, r6, rfl, g6, d7, r7, rfl, g7, d8, r8, rfl, g8, d9, r9, rfl, g9, d10, r10, rfl, g10, d11, r11, rfl, g11, rfl⟩ := this
   obtain ⟨b11, l11, rfl, hl11⟩ := sl_kn g11
   simp only [dw] at g1 g2 g3 g4 g5 g6 g7 g8 g9 g10
   obtain ⟨s1, rfl, _⟩ := g1
   obtain ⟨s2, rfl, _⟩ := g2
   obtain ⟨s3, rfl, _⟩ := g3
   obtain ⟨n4, rfl, _⟩ := g4
   obtain ⟨n5, rfl, _⟩ := g5
   obtain ⟨n6, rfl, _⟩ := g6
   obtain ⟨n7, rfl, _⟩ := g7
   obtain ⟨s8, rfl, _⟩ := g8
   obtain ⟨n9, rfl, _⟩ := g9
   obtain ⟨n10, rfl, _⟩ := g10
   exact ⟨⟨s1, s2, s3, n4, n5, n6, n7, s8, n9, n10, b11, l11⟩ :: xs, by simpa using ⟨hl11, hx⟩, rfl⟩
 have hl : xs.length < 2 ^ 62 := by rw [List.length_map] at h2; omega
 rcases h1 with rfl | ⟨rfl, h1⟩
 ·exact ⟨false, xs, by simp, hl, hx⟩
 ·simp at h1
  subst h1
  exact ⟨true, [], rfl, by simp, by simp⟩
def shSec : List Sh := [.str, .int .i64, .int .i64, .sl [.int .i64, .int .i64], .sl [.int .i64, .int .i64]]
theorem sl_sec {d : D} (h : dw (.sl shSec) d) : ∃ (b : Bool) (l : List Sec), d = slx b (l.map bf) /\ l.length < 2 ^ 62 := by
 simp only [dw] at h
 obtain ⟨es, h1, h2, h3⟩ := h
 obtain ⟨xs, rfl⟩ := nx (f := bf) (fun e he => by
  have := h3 e he
  simp only [shSec, bN] at this
  obtain ⟨d1, r1, rfl, g1, d2, r2, rfl, g2, d3, r3, rfl, g3, d4, r4, rfl, g4, d5, r5, rfl, g5, rfl⟩ := this
  obtain ⟨b4, l4, rfl, _⟩ := sl_kn g4
  obtain ⟨b5, l5, rfl, _⟩ := sl_kn g5
  simp only [dw] at g1 g2 g3
  obtain ⟨s, rfl, _⟩ := g1
  obtain ⟨n2, rfl, _⟩ := g2
  obtain ⟨n3, rfl, _⟩ := g3
  exact ⟨⟨s, n2, n3, b4, l4, b5, l5⟩, rfl⟩)
 have hl : xs.length < 2 ^ 62 := by rw [List.length_map] at h2; omega
 rcases h1 with rfl | ⟨rfl, h1⟩
 ·exact ⟨false, xs, by simp, hl⟩
 ·simp at h1
  subst h1
  exact ⟨true, [], rfl, by simp⟩
theorem sl_u32 {d : D} (h : dw (.sl [.int .u32]) d) : ∃ (b : Bool) (l : List Int), d = slx b (l.map fun n => [.int .u32 n]) /\ l.length < 2 ^ 62 /\ ∀ x ∈ l, 0 <= x /\ x < 4294967296 := by
 simp only [dw] at h
 obtain ⟨es, h1, h2, h3⟩ := h
 obtain ⟨xs, hx, rfl⟩ : ∃ xs : List Int, (∀ x ∈ xs, 0 <= x /\ x < 4294967296) /\ es = xs.map fun n => [D.int .u32 n] := by
  clear h1 h2
  induction es with
  | nil => exact ⟨[], by simp, rfl⟩
  | cons e es ih =>
   obtain ⟨xs, hx, rfl⟩ := ih (fun e he => h3 e (by simp [he]))
   have := h3 e (by simp)
   simp only [bN, dw] at this
   obtain ⟨d1, r1, rfl, ⟨k, rfl, hk⟩, rfl⟩ := this
   have e1 : IntKind.u32.min = 0 := rfl
   have e2 : IntKind.u32.max = 4294967295 := rfl
   simp [Lit.wf, e1, e2] at hk
   refine ⟨k :: xs, fun x hx' => ?_, rfl⟩
   rcases List.mem_cons.1 hx' with rfl | hx'
   ·omega
   ·exact hx x hx'
 have hl : xs.length < 2 ^ 62 := by rw [List.length_map] at h2; omega
 rcases h1 with rfl | ⟨rfl, h1⟩
 ·exact ⟨false, xs, by simp, hl, hx⟩
 ·simp at h1
  subst h1
  exact ⟨true, [], rfl, by simp, by simp⟩
theorem sl_ints {d : D} (h : dw (.sl [.int .i64]) d) : ∃ (b : Bool) (l : List Int), d = slx b (l.map fun n => [.int .i64 n]) /\ l.length < 2 ^ 62 := by
 simp only [dw] at h
 obtain ⟨es, h1, h2, h3⟩ := h
 obtain ⟨xs, rfl⟩ := nx (f := fun n : Int => [D.int .i64 n]) (fun e he => by
  have := h3 e he
  simp only [bN, dw] at this
  obtain ⟨d, r, rfl, ⟨n, rfl, _⟩, rfl⟩ := this
  exact ⟨n, rfl⟩)
 have hl : xs.length < 2 ^ 62 := by rw [List.length_map] at h2; omega
 rcases h1 with rfl | ⟨rfl, h1⟩
 ·exact ⟨false, xs, by simp, hl⟩
 ·simp at h1
  subst h1
  exact ⟨true, [], rfl, by simp⟩
def shNet : List Sh := [.sl shNod, .sl shLnk]
theorem has_net {ds : List D} (h : bN shNet ds) : ∃ (b1 b2 : Bool) (ns : List Nod) (ls : List Lnk), ds = [slx b1 (ns.map a8), slx b2 (ls.map aJ)] /\ ns.length < 2 ^ 62 /\ ls.length < 2 ^ 62 /\ (∀ x ∈ ls, x.curve.length < 2 ^ 62) := by
 simp only [shNet, bN] at h
 obtain ⟨d1, r1, rfl, g1, d2, r2, rfl, g2, rfl⟩ := h
 obtain ⟨b1, l1, rfl, h1, h2⟩ := sl_nod g1
 obtain ⟨b2, l2, rfl, h3, h4⟩ := sl_lnk g2
 exact ⟨b1, b2, l1, l2, rfl, h1, h3, h4⟩
section
open Go.ChangeShapes
variable {H : Type} {enc : TypeId × Value -> H} {P : Program} {w : World} {base : Nat} {spare : Nat -> Bool} {held : Bool}
theorem trodAll_args {t0 t1 t2 t3 : TypeId} {args : Array Value} {ds : List (DataW H)} {ps : List MemPlace} (h : DataW.TrodAll enc P w base spare held [t0, t1, t2, t3] args.toList ds ps) :
  ∃ v0 v1 v2 v3 d0 d1 d2 d3 p0 p1 p2 p3, args = #[v0, v1, v2, v3] /\ ds = [d0, d1, d2, d3] /\ ps = p0 ++ (p1 ++ (p2 ++ (p3))) /\ DataW.Trod enc P w base spare held t0 v0 d0 p0 /\ DataW.Trod enc P w base spare held t1 v1 d1 p1 /\ DataW.Trod enc P w base spare held t2 v2 d2 p2 /\ DataW.Trod enc P w base spare held t3 v3 d3 p3 := by
 obtain ⟨v0, vs0, d0, ds0, p0, q0, hargs, rfl, rfl, h0, h⟩ := trodAll_cons h
 obtain ⟨v1, vs1, d1, ds1, p1, q1, rfl, rfl, rfl, h1, h⟩ := trodAll_cons h
 obtain ⟨v2, vs2, d2, ds2, p2, q2, rfl, rfl, rfl, h2, h⟩ := trodAll_cons h
 obtain ⟨v3, vs3, d3, ds3, p3, q3, rfl, rfl, rfl, h3, h⟩ := trodAll_cons h
 obtain ⟨rfl, rfl, rfl⟩ := trodAll_nil h
 exact ⟨v0, v1, v2, v3, d0, d1, d2, d3, p0, p1, p2, p3, by cases args; simp_all, rfl, by simp, h0, h1, h2, h3⟩
end
end Go.Gv
namespace Go.Proofs.YtakhehpeefjcnaaGreat
open Go.ChangeShapes Go.WideShapes Go.ChangeAt Go.RowKit Go.Gv

theorem Tryz.own : ownKnob Tryz.prog.godebug = none := by kernel_rfl
theorem Tryz.laidOut : laidOutB Tryz.prog = true := by kernel_rfl
theorem Tryz.seat : bD Tryz.prog ⟨Tryz.prog, fun g => TryzTbl.lookup g, fun t => (TryzTys.lookup t).getD 0, fun _ => .nilIface⟩ (gy Tryz.prog ⟨Tryz.prog, fun g => TryzTbl.lookup g, fun t => (TryzTys.lookup t).getD 0, fun _ => .nilIface⟩) /\ al prog (gy Tryz.prog ⟨Tryz.prog, fun g => TryzTbl.lookup g, fun t => (TryzTys.lookup t).getD 0, fun _ => .nilIface⟩) :=
 Go.Gv.seat (by kernel_rfl) Tryz.laidOut Tryz_all
set_option maxRecDepth 100000 in
theorem Tryz.slc : SlC (gy Tryz.prog ⟨Tryz.prog, fun g => TryzTbl.lookup g, fun t => (TryzTys.lookup t).getD 0, fun _ => .nilIface⟩) where
 sort zs h := nC Tryz.lays189 (fun f hf => Option.some.inj (hf.symm.trans (show TryzTbl.lookup 366 = some (Tryz.lays189_ren.f 189) by kernel_rfl))) zs h
 compact zs h := nX Tryz.laysNm220 (fun f hf => Option.some.inj (hf.symm.trans (show TryzTbl.lookup 523 = some (Tryz.laysNm220_ren.f 20) by kernel_rfl))) zs h
 insert zs i x h1 h2 := pL Tryz.laysNm221 (fun f hf => Option.some.inj (hf.symm.trans (show TryzTbl.lookup 519 = some (Tryz.laysNm221_ren.f 21) by kernel_rfl))) zs i x h1 h2
theorem Tryz.sh25 : nL Tryz.prog 10 25 = some shNet := by kernel_rfl
theorem Tryz.sh26 : nL Tryz.prog 10 26 = some [.sl shSec] := by kernel_rfl
theorem Tryz.sh27 : nL Tryz.prog 10 27 = some [.sl [.int .i64, .int .i64]] := by kernel_rfl

set_option maxRecDepth 100000 in
theorem backwaterHighest_lifted (os : Os) (started : os.Started) (H : Type) (enc : TypeId × Value -> H) :
  ReturnsInHanded {} Tryz.checked os 4 .any (Rows.backwaterHighestSpec.pre6 enc Tryz.prog Tryz.f4 Rows.backwaterHighestRow.domain false) (Rows.backwaterHighestSpec.post enc Tryz.prog Tryz.f4 false true false false) := by
 refine returnsInHanded_of_change_sized (C := Tryz.checked) Tryz.own started (by kernel_rfl) Tryz.func4
  (ChangeSpec.witness6 (enc := enc) (C := Tryz.checked) false ⟨#[], #[.agg #[.slice none 0 0, .slice none 0 0], .slice none 0 0, .slice none 0 0, .string ⟨#[]⟩], []⟩ 8 (by kernel_rfl) (by kernel_rfl) (by kernel_rfl) (by kernel_rfl)) ?_
 intro W base args ds gs before hval0 hW _ hsz0 _
 have hsz : (DataW.weightsEach Tryz.prog (Tryz.f4.params.toList ++ Rows.backwaterHighestSpec.plain.varTypes Tryz.prog) (ds ++ gs)).all (· <= reachBytes) = true := hsz0
 clear hsz0
 have hval : ∀ (j : Nat) t v, Tryz.f4.params[j]? = some t -> args[j]? = some v -> Value.okWide Tryz.prog W .any base t v := hval0
 have hW' := hW
 obtain ⟨p, q, hA0, hV, rfl, hfz, hnd⟩ := hW
 have hA : DataW.TrodAll enc Tryz.prog W 0 (fun _ => true) true Tryz.f4.params.toList args.toList ds p := hA0
 rw [Tryz.params4] at hA hval hsz
 obtain ⟨v0, v1, v2, v3, d0, d1, d2, d3, p0, p1, p2, p3, rfl, rfl, rfl, h0, h1, h2, h3⟩ := trodAll_args hA
 obtain ⟨rfl, rfl⟩ := trodVars_none hV
 clear hA0 hval0
 simp only [List.append_nil] at hW'
 simp only [DataW.weightsEach, List.cons_append, List.nil_append, List.all_append, Bool.and_eq_true] at hsz
 have hlt : ∀ x ∈ p0 ++ (p1 ++ (p2 ++ (p3))), x.block < W.heap.size := fun x hx => by simpa using hW'.lt x (by simpa using hx)
 obtain ⟨c0, s0, r0⟩ := rE (F := ⟨Tryz.prog, fun g => TryzTbl.lookup g, fun t => (TryzTys.lookup t).getD 0, fun _ => .nilIface⟩) Tryz.underlying25 Tryz.sh25 (hval 0 25 v0 rfl rfl) h0 hsz.1
 obtain ⟨b0, b0', ns0, ls0, rfl, g0, g0', g0''⟩ := has_net s0
 obtain ⟨c1, s1, r1⟩ := od (F := ⟨Tryz.prog, fun g => TryzTbl.lookup g, fun t => (TryzTys.lookup t).getD 0, fun _ => .nilIface⟩) Tryz.underlying26 Tryz.sh26 (hval 1 26 v1 rfl rfl) h1 hsz.2.1
 obtain ⟨b1, l1, rfl, g1⟩ := sl_sec s1
 obtain ⟨c2, s2, r2⟩ := od (F := ⟨Tryz.prog, fun g => TryzTbl.lookup g, fun t => (TryzTys.lookup t).getD 0, fun _ => .nilIface⟩) Tryz.underlying27 Tryz.sh27 (hval 2 27 v2 rfl rfl) h2 hsz.2.2.1
 obtain ⟨b2, l2, rfl, g2⟩ := sl_kn s2
 obtain ⟨n3, r3⟩ := arg_str (F := ⟨Tryz.prog, fun g => TryzTbl.lookup g, fun t => (TryzTys.lookup t).getD 0, fun _ => .nilIface⟩) (M := mA W) Tryz.underlying9 (hval 3 9 v3 rfl rfl)
 have hrun := (jj Tryz.seat.2 Tryz.slc b0 b0' ns0 ls0 g0 g0' g0'' b1 l1 g1 b2 l2 g2 n3).2 4 rfl
 have hargs0 : ∀ (W' : World), Below W.heap.size W W' -> DataW.Trod enc Tryz.prog W' 0 (fun b => decide (b < W.heap.size)) true 25 v0 d0 p0 :=
  fun W' hn => Below.trod Tryz.laidOut (by kernel_rfl) (of_decide_eq_true (by kernel_rfl)) h0 hn (fun x hx => hlt x (by simp [hx]))
 have hargs1 : ∀ (W' : World), Below W.heap.size W W' -> DataW.Trod enc Tryz.prog W' 0 (fun b => decide (b < W.heap.size)) true 26 v1 d1 p1 :=
  fun W' hn => Below.trod Tryz.laidOut (by kernel_rfl) (of_decide_eq_true (by kernel_rfl)) h1 hn (fun x hx => hlt x (by simp [hx]))
 have hargs2 : ∀ (W' : World), Below W.heap.size W W' -> DataW.Trod enc Tryz.prog W' 0 (fun b => decide (b < W.heap.size)) true 27 v2 d2 p2 :=
  fun W' hn => Below.trod Tryz.laidOut (by kernel_rfl) (of_decide_eq_true (by kernel_rfl)) h2 hn (fun x hx => hlt x (by simp [hx]))
 have hargs3 : ∀ (W' : World), Below W.heap.size W W' -> DataW.Trod enc Tryz.prog W' 0 (fun b => decide (b < W.heap.size)) true 9 v3 d3 p3 :=
  fun W' hn => Below.trod Tryz.laidOut (by kernel_rfl) (of_decide_eq_true (by kernel_rfl)) h3 hn (fun x hx => hlt x (by simp [hx]))
 have hcall := hrun (mA W) W [v0, v1, v2, v3] (fun p v h => h) (by simp only [aq]; exact ⟨v0, _, rfl, r0, v1, _, rfl, r1, v2, _, rfl, r2, v3, _, rfl, r3, rfl⟩)
 refine hcall.mono fun e W' ⟨v, M', he, hn0, _, _, _, hv⟩ => ?_
 have hn := hn0.below
 simp only [af] at hv
 subst hv
 refine ⟨_, he, _, _, _, [], p0 ++ (p1 ++ (p2 ++ (p3))), [], hW', trodAll_mk1 (shut_bool Tryz.underlying4 _), ⟨p0, _, hargs0 _ hn, ⟨p1, _, hargs1 _ hn, ⟨p2, _, hargs2 _ hn, trodAll_mk1 (hargs3 _ hn), rfl⟩, rfl⟩, rfl⟩, rfl, hn.frame _, fun h => by cases h⟩
theorem backwaterHighest_holds : Rows.BackwaterHighestSaid :=
 OpenClaim.holds_of_wide 4 Tryz.f4 rfl rfl rfl rfl rfl rfl rfl ⟨rfl, rfl, rfl, rfl, rfl⟩ rfl rfl rfl rfl rfl (by kernel_rfl) Tryz.func4 (by kernel_rfl)
  (of_decide_eq_true (by kernel_rfl)) (by unfold Func.isWrapper; first | (rw [if_pos (by decide +kernel)]; kernel_rfl) | (rw [if_neg (by decide +kernel)]; exact ⟨rfl, rfl⟩))
  (fun os started H enc _ => backwaterHighest_lifted os started H enc)
#print axioms backwaterHighest_holds
end Go.Proofs.YtakhehpeefjcnaaGreat
