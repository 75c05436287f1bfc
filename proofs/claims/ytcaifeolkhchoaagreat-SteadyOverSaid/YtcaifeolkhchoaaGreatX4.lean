/-
  Texts of the proof: GvJ.
-/
import Derived.Test.YtcaifeolkhchoaaGreatX3
set_option linter.all false
namespace Go.Gv
open Go.RowKit
inductive NExit where
  | nrm
  | ext (id : Nat)
  | ret
inductive NCode where
  | skip
  | reg (draw : Bool) (hs : List Nat) (keep : List Nat) (ops : List NOper)
  | seq (a b : NCode)
  | cond (c : Opd) (x y : NCode)
  | block (id : Nat) (c : NCode)
  | loop (c : NCode)
  | exit (id : Nat)
  | ret
  deriving Inhabited
def keepS (keep : List Nat) (e : Env) : Env := keep.map fun t => (t, look e t)
def rootsOf (ks : Env) : List Nat := ks.flatMap fun p => mroots p.2
def addR (e : Env) : List Nat → Env → Env
  | [], ks => ks
  | r :: rs, ks => addR e rs (if (ks.map (·.1)).contains r then ks else ks ++ [(r, look e r)])
def prune (keep : List Nat) (e : Env) : Env := addR e (rootsOf (keepS keep e)) (keepS keep e)
def Weak (e : Env) : Env → Prop
  | [] => True
  | (t, d) :: r => look e t = d ∧ Weak e r
def wpN (C : Nat → List D → D → List D → Prop) : NCode → (NExit → Env → Prop) → Env → Prop
  | .skip, Q, e => Q .nrm e
  | .reg dr hs keep ops, Q, e => match dr with
    | false => wpNs C (fun e' => Q .nrm (prune keep e')) ops e
    | true => wpNd C hs (fun e' => Q .nrm (prune keep e')) ops e []
  | .seq x y, Q, e => wpN C x (fun t e' => match t with
    | .nrm => wpN C y Q e'
    | t => Q t e') e
  | .cond c x y, Q, e => match vd (look e) c with
    | .bool b => (b = true → wpN C x Q e) ∧ (b = false → wpN C y Q e)
    | .bb => wpN C x Q e ∧ wpN C y Q e
    | _ => False
  | .block id c, Q, e => wpN C c (fun t e' => match t with
    | .ext i => if i = id then Q .nrm e' else Q (.ext i) e'
    | t => Q t e') e
  | .loop c, Q, e => ∃ (S : Type) (G : S → Env) (I : S → Prop) (m : S → Nat) (s0 : S), I s0 ∧ Weak e (G s0) ∧
      ∀ s, I s → wpN C c (fun t e' => match t with
        | .nrm => ∃ s', I s' ∧ m s' < m s ∧ Weak e' (G s')
        | t => Q t e') (G s)
  | .exit id, Q, e => Q (.ext id) e
  | .ret, Q, e => Q .ret e
structure NFun where
  np : Nat
  nt : Nat
  res : List (Nat × Option (Nat × Bool))
  body : NCode
  deriving Inhabited
def params : Nat → List D → Env
  | _, [] => []
  | k, d :: ds => (k, d) :: params (k + 1) ds
def resD1 (e : Env) : Nat × Option (Nat × Bool) → D
  | (t, none) => dp (look e) (look e t)
  | (t, some (n, ag)) => match look e t with
    | .adr p i off => match getP (look e) p with
      | some (_, es) => pack ag n (((es[i]?.getD []).drop off).map cellV)
      | none => .any
    | _ => .any
def resP (e : Env) : Nat × Option (Nat × Bool) → Prop
  | (t, none) => t < 10000 ∧ dpOk (look e) (look e t)
  | (t, some (n, ag)) => t < 10000 ∧ match look e t with
    | .adr p i off => match getP (look e) p with
      | some (_, es) => off + n ≤ (es[i]?.getD []).length
      | none => False
    | _ => False
def retOk (rs : List (Nat × Option (Nat × Bool))) (d : D) (e : Env) : Prop :=
  (∀ r ∈ rs, resP e r) ∧ match rs with
  | [r] => resD1 e r = d
  | rs => d = .tup (rs.map (resD1 e))
def retOwn (rs : List (Nat × Option (Nat × Bool))) (sz : Nat) (es : List (List D)) (e : Env) : Prop :=
  0 < sz ∧ (∀ r ∈ es, ∀ c ∈ r, isF1 c = true) ∧ match rs with
  | [(t, none)] => t < 10000 ∧ match look e t with
    | .ref (.r b) k n => k = 0 ∧ n = es.length ∧ look e b = .blk sz es
    | .nils => es = []
    | _ => False
  | _ => False
def Closed (prog : Nat → Option NFun) (C : Nat → List D → D → List D → Prop) : Prop :=
  (∀ g nf ds d, prog g = some nf → ds.length = nf.np → wpN C nf.body (fun t e => (match t with
    | .ext _ => False
    | _ => True) ∧ retOk nf.res d e) (params 0 ds) → C g ds d []) ∧ (∀ g ds d, C g ds d [] → C g ds (forget d) []) ∧
  ∀ g nf ds sz es, prog g = some nf → ds.length = nf.np → wpN C nf.body (fun t e => (match t with
    | .ext _ => False
    | _ => True) ∧ retOwn nf.res sz es e) (params 0 ds) → C g ds .any [.own sz es]
def codeOk (P : Program) (F : Fid) (nt : Nat) : NCode → Code → Bool
  | .skip, .skip => true
  | .reg dr hs _ ns, .region _ ops dr' => dr == dr' && regOk P F nt ns ops && (!dr || drawOk hs ops)
  | .seq x y, .seq x' y' => codeOk P F nt x x' && codeOk P F nt y y'
  | .cond c x y, .cond c' x' y' => opdOk F c c' && codeOk P F nt x x' && codeOk P F nt y y'
  | .block i c, .block i' c' => i == i' && codeOk P F nt c c'
  | .loop c, .loop c' => codeOk P F nt c c'
  | .exit i, .exit i' => i == i'
  | .ret, .ret => true
  | _, _ => false
def resOk (P : Program) : Nat × Option (Nat × Bool) → ResultVar → Bool
  | (t, none), .tmp t' => t == t'
  | (t, some (n, ag)), .cell t' ty => t == t' && tyS P ty n ag
  | _, _ => false
def funOk (P : Program) (F : Fid) (fi : Nat) (nf : NFun) : Bool := match P.funcs[fi]? with
  | some fn => fn.ntmps == nf.nt && fn.params.size + fn.nfree == nf.np && decide (nf.np ≤ nf.nt) && decide (nf.nt ≤ 10000) && nf.res.length == fn.results.toList.length && ((nf.res.zip fn.results.toList).all fun p => resOk P p.1 p.2) &&
    !(fn.name == "runtime.NumGoroutine") && match fn.body with
    | some c => codeOk P F nf.nt nf.body c
    | none => false
  | none => false
section
variable {P : Program} {F : Fid} {C : Nat → List D → D → List D → Prop} {nt : Nat} {S : Nat → Prop} {L : Nat → Option Loc} {w0 : World} {M0 : Mem} {f : Nat → D} {M : Mem} {a : Act} {w : World} {Q : Exit → Act → World → Prop} {ρ : Pa → Loc} {ω : Nat → Option Pa}
theorem look_weak {e : Env} : ∀ {e' : Env}, (∀ p ∈ e', look e p.1 = p.2) → ∀ t, look e' t = .any ∨ look e' t = look e t
  | [], _, t => .inl rfl
  | (s, d) :: r, h, t => by
    simp only [look]
    by_cases hs : s = t
    · subst hs
      rw [if_pos rfl]
      exact .inr (h (s, d) (by simp)).symm
    · rw [if_neg hs]
      exact look_weak (fun p hp => h p (by simp [hp])) t
theorem addR_mem {e : Env} : ∀ (rs : List Nat) (ks : Env), (∀ p ∈ ks, look e p.1 = p.2) → ∀ p ∈ addR e rs ks, look e p.1 = p.2
  | [], ks, h => h
  | r :: rs, ks, h => by
    refine addR_mem rs _ ?_
    split
    · exact h
    · intro p hp
      rcases List.mem_append.1 hp with h1 | h1
      · exact h p h1
      · simp at h1; subst h1; rfl
theorem SR.prune {e : Env} (h : SR F nt S L w0 M0 (look e) M a w) (keep : List Nat) : SR F nt S L w0 M0 (look (prune keep e)) M a w :=
  h.weak (look_weak (addR_mem _ _ (fun p hp => by obtain ⟨t, _, rfl⟩ := List.mem_map.1 hp; rfl)))
theorem weak_mem {e : Env} : ∀ {e' : Env}, Weak e e' → ∀ p ∈ e', look e p.1 = p.2
  | [], _, p, hp => by cases hp
  | (s, d) :: r, h, p, hp => by
    rcases List.mem_cons.1 hp with rfl | hp
    · exact h.1
    · exact weak_mem h.2 p hp
theorem SR.weakL {e e' : Env} (h : SR F nt S L w0 M0 (look e) M a w) (hw : Weak e e') : SR F nt S L w0 M0 (look e') M a w := h.weak (look_weak (weak_mem hw))
def QM (F : Fid) (nt : Nat) (S : Nat → Prop) (L : Nat → Option Loc) (w0 : World) (M0 : Mem) (Q : NExit → Env → Prop) : Exit → Act → World → Prop
  | .normal, a, w => ∃ e M, SR F nt S L w0 M0 (look e) M a w ∧ Q .nrm e
  | .exit id, a, w => ∃ e M, SR F nt S L w0 M0 (look e) M a w ∧ Q (.ext id) e
  | .ret, a, w => ∃ e M, SR F nt S L w0 M0 (look e) M a w ∧ Q .ret e
  | _, _, _ => False
theorem wpN_sound (hC : CSound P F C) (hL : NoL L S) (hm : P.follows .mixedOrders = true) : ∀ (nc : NCode) (c : Code), codeOk P F nt nc c = true → ∀ (Q : NExit → Env → Prop) (e : Env) (M : Mem) (a : Act) (w : World),
    SR F nt S L w0 M0 (look e) M a w → wpN C nc Q e → c.wp P (QM F nt S L w0 M0 Q) a w
  | .skip, c, hk, Q, e, M, a, w, h, hw => by
    cases c <;> simp only [codeOk, Bool.false_eq_true] at hk
    exact wp_skip ⟨e, M, h, hw⟩
  | .reg dr hs keep ns, c, hk, Q, e, M, a, w, h, hw => by
    cases c <;> simp only [codeOk, Bool.false_eq_true] at hk
    rename_i id ops dr'
    simp only [Bool.and_eq_true, beq_iff_eq, Bool.or_eq_true, Bool.not_eq_true'] at hk
    obtain ⟨⟨rfl, h1⟩, h2⟩ := hk
    have hQ : ∀ e M a w, SR F nt S L w0 M0 (look e) M a w → Q .nrm (prune keep e) → QM F nt S L w0 M0 Q .normal a w := fun e M a w hs hq => ⟨_, M, hs.prune keep, hq⟩
    cases dr with
    | false => exact region_text hC hL h1 h hw hQ
    | true => exact region_draw hC hL hm h1 (by simpa using h2) h hw hQ
  | .seq x y, c, hk, Q, e, M, a, w, h, hw => by
    cases c <;> simp only [codeOk, Bool.false_eq_true] at hk
    rename_i x' y'
    simp only [Bool.and_eq_true] at hk
    refine wp_seq (wp_mono (wpN_sound hC hL hm x x' hk.1 _ e M a w h hw) ?_)
    intro t a' w' hq
    cases t <;> simp only [QM, Exit.then] at hq ⊢
    · obtain ⟨e', M', h1, h2⟩ := hq
      exact wpN_sound hC hL hm y y' hk.2 Q e' M' a' w' h1 h2
    all_goals exact hq
  | .cond c x y, c', hk, Q, e, M, a, w, h, hw => by
    cases c' <;> simp only [codeOk, Bool.false_eq_true] at hk
    rename_i c' x' y'
    simp only [Bool.and_eq_true] at hk
    simp only [wpN] at hw
    split at hw
    · rename_i b hb
      have h1 := h.opd hk.1.1 (by rw [hb]; rfl)
      rw [hb] at h1
      simp only [RepC] at h1
      cases b with
      | true => exact wp_cond_true h1 (wpN_sound hC hL hm x x' hk.1.2 Q e M a w h (hw.1 rfl))
      | false => exact wp_cond_false h1 (wpN_sound hC hL hm y y' hk.2 Q e M a w h (hw.2 rfl))
    · rename_i hb
      have h1 := h.opd hk.1.1 (by rw [hb]; rfl)
      rw [hb] at h1
      simp only [RepC] at h1
      obtain ⟨b, h1⟩ := h1
      cases b with
      | true => exact wp_cond_true h1 (wpN_sound hC hL hm x x' hk.1.2 Q e M a w h hw.1)
      | false => exact wp_cond_false h1 (wpN_sound hC hL hm y y' hk.2 Q e M a w h hw.2)
    · exact hw.elim
  | .block i x, c, hk, Q, e, M, a, w, h, hw => by
    cases c <;> simp only [codeOk, Bool.false_eq_true] at hk
    rename_i i' x'
    simp only [Bool.and_eq_true, beq_iff_eq] at hk
    obtain ⟨rfl, hk⟩ := hk
    refine wp_block (wp_mono (wpN_sound hC hL hm x x' hk _ e M a w h hw) ?_)
    intro t a' w' hq
    cases t <;> simp only [QM, Exit.inBlock] at hq ⊢
    case exit j =>
      obtain ⟨e', M', h1, h2⟩ := hq
      split at h2
      · rename_i hj; rw [if_pos hj]; exact ⟨e', M', h1, h2⟩
      · rename_i hj; rw [if_neg hj]; exact ⟨e', M', h1, h2⟩
    all_goals exact hq
  | .loop x, c, hk, Q, e, M, a, w, h, hw => by
    cases c <;> simp only [codeOk, Bool.false_eq_true] at hk
    rename_i x'
    obtain ⟨ST, G, I, m, s0, h0, hw0, hround⟩ := hw
    let fits : Act → World → Nat → Prop := fun a w n => ∃ s M, I s ∧ SR F nt S L w0 M0 (look (G s)) M a w ∧ m s = n
    have hmin : ∀ a w n, fits a w n → ∃ k, fits a w k ∧ ∀ k', fits a w k' → k ≤ k' := by
      intro a w n
      induction n using Nat.strongRecOn with
      | _ n ih =>
        intro hn
        by_cases hl : ∃ k, k < n ∧ fits a w k
        · obtain ⟨k, hk, hf⟩ := hl
          exact ih k hk hf
        · exact ⟨n, hn, fun k' hk' => Nat.le_of_not_lt fun hlt => hl ⟨k', hlt, hk'⟩⟩
    let mu : Act → World → Nat := fun a w => Classical.epsilon fun k => fits a w k ∧ ∀ k', fits a w k' → k ≤ k'
    have hmu : ∀ a w n, fits a w n → fits a w (mu a w) ∧ ∀ k', fits a w k' → mu a w ≤ k' := fun a w n hn => Classical.epsilon_spec (hmin a w n hn)
    refine wp_loop (fun a w => ∃ n, fits a w n) mu ⟨_, s0, M, h0, h.weakL hw0, rfl⟩ ?_
    rintro a w ⟨n, hn⟩
    obtain ⟨⟨s, M, hI, hs, hms⟩, _⟩ := hmu a w n hn
    refine wp_mono (wpN_sound hC hL hm x x' hk _ (G s) M a w hs (hround s hI)) ?_
    intro t a' w' hq
    cases t <;> simp only [QM, Exit.then] at hq ⊢
    · obtain ⟨e', M', h1, s', h2, h3, h4⟩ := hq
      have hf : fits a' w' (m s') := ⟨s', M', h2, h1.weakL h4, rfl⟩
      exact ⟨⟨_, hf⟩, Nat.lt_of_le_of_lt ((hmu a' w' _ hf).2 _ hf) (by omega)⟩
    all_goals exact hq
  | .exit i, c, hk, Q, e, M, a, w, h, hw => by
    cases c <;> simp only [codeOk, Bool.false_eq_true] at hk
    rename_i i'
    simp only [beq_iff_eq] at hk
    subst hk
    exact wp_exit ⟨e, M, h, hw⟩
  | .ret, c, hk, Q, e, M, a, w, h, hw => by
    cases c <;> simp only [codeOk, Bool.false_eq_true] at hk
    exact wp_ret ⟨e, M, h, hw⟩
theorem look_params : ∀ (ds : List D) (k t : Nat), look (params k ds) t = if k ≤ t then (ds[t - k]?).getD .any else .any
  | [], k, t => by simp [params, look]
  | d :: ds, k, t => by
    simp only [params, look]
    by_cases h : k = t
    · subst h; simp
    · rw [if_neg h, look_params ds (k + 1) t]
      by_cases hk : k ≤ t
      · rw [if_pos hk, if_pos (by omega)]
        rw [show t - k = (t - (k + 1)) + 1 from by omega]
        simp
      · rw [if_neg hk, if_neg (by omega)]
theorem start_SR {ds : List D} {vs : List Value} (r : RepL F M ds vs) (hh : ∀ p v, M p = some v → w.cell? p = some v) (hl : ds.length ≤ nt) (hnt : nt ≤ 10000) :
    SR F nt (fun _ => False) (fun _ => none) w M (look (params 0 ds)) M { tmps := vs.toArray ++ Array.replicate (nt - vs.toArray.size) undef, defers := [] } w where
  hnt := hnt
  size := by have := r.length; simp; omega
  defers := rfl
  ch := Ch.refl _ _
  holds := hh
  ext := Mem.le_refl _
  fresh p h1 h2 := absurd h1 h2
  own := by
    have big : ∀ b, 10000 ≤ b → look (params 0 ds) b = .any := fun b hb => by
      rw [look_params]
      simp [List.getElem?_eq_none (show ds.length ≤ b by omega)]
    refine ⟨fun _ => default, fun _ => none, ⟨fun t _ => ?_, fun b sz es hb e => ?_, fun b kt et ks vs hb e => ?_, fun k p e => (by cases e), fun k p e => (by cases e), fun p q e => (by cases e), fun b l _ e => (by cases e)⟩⟩
    · by_cases ht : t < ds.length
      · have hd : look (params 0 ds) t = ds[t] := by rw [look_params]; simp [ht]
        obtain ⟨v, hv, rv⟩ := r.get (List.getElem?_eq_getElem ht)
        refine .inr ⟨v, ?_, by rw [hd]; exact RepV.of_pure rv⟩
        have : t < vs.length := by rw [r.length]; exact ht
        simp only [Array.getElem?_append, List.size_toArray, this, if_true, List.getElem?_toArray]
        exact hv
      · exact .inl (by rw [look_params]; simp [ht])
    · rw [big b hb] at e; cases e
    · rw [big b hb] at e; cases e
theorem run_results {e : Env} (h : SR F nt S L w0 M0 (look e) M a w) (hO : Own F L (NewB S w0) (look e) M a w ρ ω) (g : ResultVar → Sem Value) (hg1 : ∀ t, g (.tmp t) = pure (a.tmps.getD t undef)) (hg2 : ∀ x t, g (.cell x t) = (do loadVar t (← asAddr (a.tmps.getD x undef)))) :
    ∀ (rs : List (Nat × Option (Nat × Bool))) (rvs : List ResultVar), rs.length = rvs.length → (∀ p ∈ rs.zip rvs, resOk P p.1 p.2 = true) → (∀ r ∈ rs, resP e r) →
    ∃ vs : List Value, (rvs.mapM g).run P w = .ok vs w ∧ RepL F (Mplus ω M w) (rs.map (resD1 e)) vs
  | [], [], _, _, _ => ⟨[], rfl, by simp [RepL]⟩
  | r :: rs, rv :: rvs, hl, hk, hv => by
    obtain ⟨vs, h1, h2⟩ := run_results h hO g hg1 hg2 rs rvs (by simpa using hl) (fun p hp => hk p (by simp [hp])) (fun r hr => hv r (by simp [hr]))
    have hr := hk (r, rv) (by simp)
    have hvr := hv r (by simp)
    have one : ∃ v, (g rv).run P w = .ok v w ∧ RepC F (Mplus ω M w) (resD1 e r) v := by
      unfold resOk at hr
      split at hr
      · rename_i t t' e1 e2
        simp only [beq_iff_eq] at hr
        subst hr
        simp only at e1
        subst e1
        simp only at e2
        rw [e2, hg1]
        refine ⟨_, rfl, ?_⟩
        simp only [resP] at hvr
        have := hO.opd (x := .t t) (y := .tmp t) (by simp [opdOk, hvr.1])
        simp only [vd] at this
        exact dp_rep hO this hvr.2
      · rename_i t n ag t' ty e1 e2
        simp only [Bool.and_eq_true, beq_iff_eq] at hr
        obtain ⟨rfl, hty⟩ := hr
        simp only at e1
        subst e1
        simp only [resP] at hvr
        obtain ⟨ht, hvr⟩ := hvr
        split at hvr
        · rename_i p i off ex
          split at hvr
          · rename_i sz es hg
            have hx := hO.opd (x := .t t) (y := .tmp t) (by simp [opdOk, ht])
            simp only [vd] at hx
            rw [ex, repV_of rfl] at hx
            simp only [RepR] at hx
            have hpos : 0 < n ∨ n = 0 := by omega
            cases hi : es[i]? with
            | none =>
              rw [hi] at hvr
              simp at hvr
              obtain ⟨rfl, rfl⟩ := hvr
              cases ag with
              | false => have := tyS_one hty; omega
              | true =>
                refine ⟨.agg #[], ?_, ?_⟩
                · have := run_loadAt (P := P) (w := w) hty (a := ⟨(ρ p).blk, (ρ p).base + i * (ρ p).sz + 0, none⟩) (vs := []) (by simp) (by simp)
                  simp only [Instr.loadAt, Instr.sureAddr, Sem.run_bind, Sem.run_pure, Result.andThen_ok] at this
                  simp only at e2
                  have ea : a.tmps.getD t undef = a.eval (.tmp t) := rfl
                  rw [e2, hg2, ea, hx]
                  simp only [asAddr, Sem.run_bind, Sem.run_pure, Result.andThen_ok, this]
                  simp
                · simp [resD1, ex, hg, hi, pack, RepC, RepL]
            | some r =>
              rw [hi] at hvr
              simp only [Option.getD_some] at hvr
              obtain ⟨us, T, hω, h0, hl, g1, g2, g3, g4⟩ := hO.row (getP_big hO hg) hg hi
              rw [h0] at hx
              refine ⟨if ag then .agg ((us.drop ((ρ p).base + i * sz + off)).take n).toArray else (us.drop ((ρ p).base + i * sz + off)).headD undef, ?_, ?_⟩
              · have := run_loadAt (P := P) (w := w) hty (a := ⟨(ρ p).blk, (ρ p).base + i * sz + off, none⟩) (vs := us.drop ((ρ p).base + i * sz + off)) (fun j v hj => by
                  rw [addr_add]
                  rw [List.getElem?_drop] at hj
                  simp [World.cell?, g1, hj]) (by simp; omega)
                simp only [Instr.loadAt, Instr.sureAddr, Sem.run_bind, Sem.run_pure, Result.andThen_ok] at this
                simp only at e2
                have ea : a.tmps.getD t undef = a.eval (.tmp t) := rfl
                rw [e2, hg2, ea, hx]
                simp only [asAddr, Sem.run_bind, Sem.run_pure, Result.andThen_ok, this]
              · simp only [resD1, ex, hg, hi, Option.getD_some]
                have hrl : RepL F (Mplus ω M w) ((r.drop off).map cellV) ((us.drop ((ρ p).base + i * sz + off)).take (sz - off)) := RepL.of_forall' (by simp; omega) (fun j d v e1 e3 => by
                  rw [List.getElem?_map, Option.map_eq_some_iff] at e1
                  obtain ⟨d', e1, rfl⟩ := e1
                  rw [List.getElem?_drop] at e1
                  obtain ⟨u, k1, k2⟩ := g4 _ _ e1
                  rw [List.getElem?_take] at e3
                  split at e3
                  · rw [List.getElem?_drop, Nat.add_assoc] at e3
                    rw [k1] at e3; cases e3
                    exact cellV_rep hO k2
                  · cases e3)
                have hpk := pack_rep hrl ag n
                cases ag with
                | true =>
                  simp only [if_true] at hpk ⊢
                  rw [List.take_take, Nat.min_eq_left (by omega)] at hpk
                  exact hpk
                | false =>
                  have := tyS_one hty
                  simp only [Bool.false_eq_true, if_false] at hpk ⊢
                  have e3 : ((us.drop ((ρ p).base + i * sz + off)).take (sz - off)).headD undef = (us.drop ((ρ p).base + i * sz + off)).headD undef := by
                    cases us.drop ((ρ p).base + i * sz + off) with
                    | nil => simp
                    | cons x xs =>
                      rw [show sz - off = (sz - off - 1) + 1 from by omega]
                      simp
                  rw [e3] at hpk
                  exact hpk
          · exact hvr.elim
        · exact hvr.elim
      · cases hr
    obtain ⟨v, h3, h4⟩ := one
    refine ⟨v :: vs, by simp [List.mapM_cons, h3, h1], ?_⟩
    simp only [List.map_cons, RepL]
    exact ⟨v, vs, rfl, h4, h2⟩
theorem fun_sound (hC : CSound P F C) (hm : P.follows .mixedOrders = true) {fi : Nat} {nf : NFun} (hk : funOk P F fi nf = true) {ds : List D} {d : D} (hl : ds.length = nf.np)
    (hw : wpN C nf.body (fun t e => (match t with
      | .ext _ => False
      | _ => True) ∧ retOk nf.res d e) (params 0 ds)) : RunsD P F fi ds d := by
  intro M w vs hh r
  unfold funOk at hk
  split at hk
  · rename_i fn hfn
    simp only [Bool.and_eq_true, beq_iff_eq, List.all_eq_true, decide_eq_true_eq, Bool.not_eq_true'] at hk
    obtain ⟨⟨⟨⟨⟨⟨⟨h1, h2⟩, h3⟩, h3'⟩, h4⟩, h5⟩, h6⟩, h7⟩ := hk
    split at h7
    · rename_i c hc
      have hs := start_SR (nt := nf.nt) r hh (by omega) h3'
      have hwp := wpN_sound hC ⟨fun _ => rfl, fun _ h => h⟩ hm nf.body c h7 _ _ M _ w hs hw
      refine calls_of_wp hfn hc ?_
      rw [h1]
      refine wp_mono hwp ?_
      have fin : ∀ (a' : Act) (w' : World), (∃ e M', SR F nf.nt (fun _ => False) (fun _ => none) w M (look e) M' a' w' ∧ retOk nf.res d e) → a'.defers = [] ∧ ∃ v, (results fn a'.tmps).run P w' = .ok v w' ∧
          (∃ v' M', Ending.returned v = .returned v' ∧ Bel w w' ∧ M.le M' ∧ (∀ p, M p = none → M' p ≠ none → w.heap.size ≤ p.block) ∧ (∀ p v, M' p = some v → w'.cell? p = some v) ∧ RepC F M' d v') := by
        rintro a' w' ⟨e, M', hs', hr1, hr2⟩
        refine ⟨hs'.defers, ?_⟩
        obtain ⟨ρ, ω, hO⟩ := hs'.own
        obtain ⟨us, k1, k2⟩ := run_results (P := P) hs' hO (fun
          | .tmp t => pure (a'.tmps.getD t undef)
          | .cell x t => do loadVar t (← asAddr (a'.tmps.getD x undef))) (fun _ => rfl) (fun _ _ => rfl) nf.res fn.results.toList h4 h5 hr1
        have hrun : (results fn a'.tmps).run P w' = .ok (if h : us.toArray.size = 1 then us.toArray[0] else .tuple us.toArray) w' := by
          unfold results
          rw [Sem.run_bind, Array.mapM_eq_mapM_toList]
          have k1' : ((fn.results.toList.mapM fun
            | .tmp t => pure (a'.tmps.getD t undef)
            | .cell x t => do loadVar t (← asAddr (a'.tmps.getD x undef)) : Sem (List Value))).run P w' = .ok us w' := k1
          simp only [Sem.run_map]
          erw [k1']
          rfl
        refine ⟨_, hrun, _, Mplus ω M' w', rfl, hs'.ch.below (fun _ _ h => h), Mem.le_trans hs'.ext (Mplus_le hO), fun p hp hq => ?_, Mplus_holds hs'.holds, ?_⟩
        · unfold Mplus at hq
          split at hq
          · rename_i q hq'
            rcases hO.new _ _ hq' with h | h
            · exact h.elim
            · exact h
          · exact hs'.fresh p hp hq
        have hlen := k2.length
        simp only [List.length_map] at hlen
        split at hr2
        · rename_i r1 hres
          rw [hres] at k2 hlen
          simp only [List.map_cons, List.map_nil, RepL] at k2
          obtain ⟨v, r', rfl, k3, rfl⟩ := k2
          rw [← hr2]
          simpa using k3
        · rename_i hne
          have : ¬ us.toArray.size = 1 := by
            intro h'
            have : nf.res.length = 1 := by rw [← hlen]; simpa using h'
            match hq : nf.res, this with
            | [x], _ => exact hne x hq
          rw [dif_neg this, hr2]
          simp only [RepC]
          exact ⟨us, rfl, k2⟩
      intro t a' w' hq
      cases t <;> simp only [QM] at hq
      · obtain ⟨e, M', q1, _, q2⟩ := hq
        exact fin a' w' ⟨e, M', q1, q2⟩
      · obtain ⟨e, M', q1, q2, _⟩ := hq
        exact q2.elim
      · obtain ⟨e, M', q1, _, q2⟩ := hq
        exact fin a' w' ⟨e, M', q1, q2⟩
    · cases h7
  · cases hk
theorem fun_soundF (hC : CSound P F C) (hm : P.follows .mixedOrders = true) {fi : Nat} {nf : NFun} (hk : funOk P F fi nf = true) {ds : List D} {sz : Nat} {es : List (List D)} (hl : ds.length = nf.np)
    (hw : wpN C nf.body (fun t e => (match t with
      | .ext _ => False
      | _ => True) ∧ retOwn nf.res sz es e) (params 0 ds)) : RunsF P F fi ds sz es := by
  intro M w vs hh r
  unfold funOk at hk
  split at hk
  · rename_i fn hfn
    simp only [Bool.and_eq_true, beq_iff_eq, List.all_eq_true, decide_eq_true_eq, Bool.not_eq_true'] at hk
    obtain ⟨⟨⟨⟨⟨⟨⟨h1, h2⟩, h3⟩, h3'⟩, h4⟩, h5⟩, h6⟩, h7⟩ := hk
    split at h7
    · rename_i c hc
      have hs := start_SR (nt := nf.nt) r hh (by omega) h3'
      have hwp := wpN_sound hC ⟨fun _ => rfl, fun _ h => h⟩ hm nf.body c h7 _ _ M _ w hs hw
      refine calls_of_wp hfn hc ?_
      rw [h1]
      refine wp_mono hwp ?_
      have fin : ∀ (a' : Act) (w' : World), (∃ e M', SR F nf.nt (fun _ => False) (fun _ => none) w M (look e) M' a' w' ∧ retOwn nf.res sz es e) → a'.defers = [] ∧ ∃ v, (results fn a'.tmps).run P w' = .ok v w' ∧
          ((es = [] ∧ 0 < sz ∧ ∃ A : Option Addr, Ending.returned v = .returned (.slice A 0 0) ∧ Bel w w') ∨ ∃ (b o : Nat) (T : TypeId) (us : List Value) (cap : Nat), Ending.returned v = .returned (.slice (some ⟨b, o, none⟩) es.length cap) ∧ Bel w w' ∧ w.heap.size ≤ b ∧
            w'.heap[b]? = some (.cells us.toArray T (0, 0)) ∧ es.length ≤ cap ∧ (o + cap * sz ≤ us.length ∧ cap ≤ 9223372036854775807) ∧ (∀ e ∈ es, e.length = sz) ∧
            ∀ i r off d, es[i]? = some r → r[off]? = some d → isF1 d = true ∧ ∃ u, us[o + i * sz + off]? = some u ∧ RepC F M d u) := by
        rintro a' w' ⟨e, M', hs', hsz0, hflat, hr⟩
        refine ⟨hs'.defers, ?_⟩
        obtain ⟨ρ, ω, hO⟩ := hs'.own
        split at hr
        · rename_i t hres
          obtain ⟨ht, hr⟩ := hr
          have hrun : (results fn a'.tmps).run P w' = .ok (a'.tmps.getD t undef) w' := by
            rw [hres] at h4 h5
            obtain ⟨rv, hrv⟩ : ∃ rv, fn.results.toList = [rv] := by
              match hq : fn.results.toList, h4 with
              | [x], _ => exact ⟨x, rfl⟩
            have hok := h5 ((t, none), rv) (by rw [hrv]; simp)
            unfold results
            rw [Sem.run_bind, Array.mapM_eq_mapM_toList]
            simp only [Sem.run_map]
            rw [hrv]
            cases rv with
            | tmp t' =>
              simp only [resOk, beq_iff_eq] at hok
              subst hok
              rfl
            | cell t' ty => simp [resOk] at hok
          have hev : a'.tmps.getD t undef = a'.eval (.tmp t) := rfl
          have hx := hO.opd (x := .t t) (y := .tmp t) (by simp [opdOk, ht])
          simp only [vd] at hx
          split at hr
          · rename_i b k n hlk
            obtain ⟨rfl, rfl, hb⟩ := hr
            rw [hlk, repV_of rfl] at hx
            simp only [RepR] at hx
            have hrow := hO.roots b sz es (hO.big hb) hb
            unfold PathR at hrow
            refine ⟨_, hrun, ?_⟩
            rcases hx with ⟨h0, A, hv⟩ | ⟨cap, hv, hcap, hcl, hmc⟩
            · exact .inl ⟨List.eq_nil_of_length_eq_zero h0, hsz0, A, by rw [hev, hv], hs'.ch.below (fun _ _ h => h)⟩
            rcases hrow with hrow | ⟨hω, hrows⟩
            · obtain ⟨v1, v2, v3, v4⟩ := hrow
              have hc0 : cap = 0 := by
                rw [v2, v3] at hcl
                simp only [Nat.zero_add] at hcl
                rcases Nat.eq_zero_or_pos cap with h | h
                · exact h
                · have := Nat.mul_pos h v4; omega
              subst hc0
              have hl0 : es.length = 0 := by rw [v1]; rfl
              exact .inl ⟨v1, hsz0, _, by rw [hev, hv, hl0], hs'.ch.below (fun _ _ h => h)⟩
            obtain ⟨hsz, us, T, g1, g2, g3, g4, g5⟩ := hrows
            refine .inr ⟨(ρ (.r b)).blk, (ρ (.r b)).base, T, us, cap, ?_, hs'.ch.below (fun _ _ h => h), ?_, g1, hcap, ⟨?_, hmc⟩, g4, fun i r off d e1 e2 => ?_⟩
            · rw [hev, hv]
              simp
            · rcases hO.new _ _ hω with h | h
              · exact h.elim
              · exact h
            · rw [g2, ← hsz]
              simpa using hcl
            · obtain ⟨u, k1, k2⟩ := g5 i r off d e1 e2
              have hf1 := hflat r (List.mem_of_getElem? e1) d (List.mem_of_getElem? e2)
              rw [isC1_CellR (isF1_isO hf1)] at k2
              exact ⟨hf1, u, k1, flat1_rep hf1 k2⟩
          · rename_i hlk
            rw [hlk, repV_of rfl] at hx
            simp only [RepR, RepC] at hx
            exact ⟨_, hrun, .inl ⟨hr, hsz0, none, by rw [hev, hx], hs'.ch.below (fun _ _ h => h)⟩⟩
          · exact hr.elim
        · exact hr.elim
      intro t a' w' hq
      cases t <;> simp only [QM] at hq
      · obtain ⟨e, M', q1, _, q2⟩ := hq
        exact fin a' w' ⟨e, M', q1, q2⟩
      · obtain ⟨e, M', q1, q2, _⟩ := hq
        exact q2.elim
      · obtain ⟨e, M', q1, _, q2⟩ := hq
        exact fin a' w' ⟨e, M', q1, q2⟩
    · cases h7
  · cases hk
theorem forget_repL {F : Fid} {M : Mem} : ∀ (ds : List D) (vs : List Value), RepL F M ds vs → RepL F M (ds.map forget1) vs
  | [], vs, x => by simpa only [List.map_nil, RepL] using x
  | d :: ds, vs, x => by
    simp only [List.map_cons, RepL] at x ⊢
    obtain ⟨v, r, e, x1, x2⟩ := x
    refine ⟨v, r, e, ?_, forget_repL ds r x2⟩
    unfold forget1
    split
    · exact x1
    · simp only [RepC]
theorem forget_rep {F : Fid} {M : Mem} {d : D} {v : Value} (h : RepC F M d v) : RepC F M (forget d) v := by
  cases d
  case tup ds =>
    simp only [forget, RepC] at h ⊢
    obtain ⟨vs, e, r⟩ := h
    exact ⟨vs, e, forget_repL ds vs r⟩
  all_goals exact h
def runsC (P : Program) (F : Fid) (g : Nat) (ds : List D) (d : D) : List D → Prop
  | [] => True ∧ ∀ f, F g = some f → RunsD P F f ds d
  | [.own sz es] => True ∧ ∀ f, F g = some f → RunsF P F f ds sz es
  | [.own sz es', .nilp] => True ∧ ∀ f, F g = some f → match ds with
    | .own sz0 es :: ds' => sz0 = sz ∧ RunsS P F f sz es ds' es'
    | _ => False
  | [.own sz es', .nils] => True ∧ ∀ f, F g = some f → match ds with
    | .own sz0 es :: ds' => sz0 = sz ∧ RunsE P F f sz es ds' es'
    | _ => False
  | [.own sz es', .nils, .nils] => True ∧ ∀ f, F g = some f → match ds with
    | .own sz0 es :: ds' => sz0 = sz ∧ RunsI P F f sz es ds' es'
    | _ => False
  | _ => False
theorem runs_closed (hm : P.follows .mixedOrders = true) {prog : Nat → Option NFun} (hnamed : ∀ g f, F g = some f → named P f = true) (hlaid : laidOutB F.P = true) (hP : P = F.P) (hall : ∀ g f nf, F g = some f → prog g = some nf → funOk P F f nf = true) : CSound P F (runsC P F) ∧ Closed prog (runsC P F) := by
  have hs : CSound P F (runsC P F) := ⟨fun g f ds d hg h => h.2 f hg, fun g f ds sz es hg h => h.2 f hg, fun g f sz es ds es' hg h => (h.2 f hg).2, fun g f sz es ds es' hg h => (h.2 f hg).2, fun g f sz es ds es' hg h => (h.2 f hg).2, hnamed, hlaid, hP⟩
  refine ⟨hs, fun g nf ds d hp hl hw => ⟨trivial, fun f hf => fun_sound hs hm (hall g f nf hf hp) hl hw⟩, fun g ds d h => ⟨trivial, fun f hf M w vs hh r => ?_⟩, fun g nf ds sz es hp hl hw => ⟨trivial, fun f hf => fun_soundF hs hm (hall g f nf hf hp) hl hw⟩⟩
  exact (h.2 f hf M w vs hh r).mono fun e w' ⟨v, M', q1, q2, q3, q4, q5, q6⟩ => ⟨v, M', q1, q2, q3, q4, q5, forget_rep q6⟩
end
end Go.Gv
