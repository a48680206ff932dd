/- Code and calls: what the abstract machine comes to, the machine comes to. Own work. -/
import Derived.Scope
import Derived.Test.YtghkgkjbdfnimaaAmDraw5
import Derived.LoopNIn
import Derived.RangeFuncLeaves
namespace Go.AM
open Go Go.RowKit
set_option linter.unusedVariables false
set_option linter.unusedSimpArgs false
set_option linter.unusedSectionVars false

theorem Env.set_same (e : Env) (d : Nat) (v : AV) : (e.set d v) d = v := by simp [Env.set]

def exR : Ex → Exit → Prop
  | .normal, .normal => True
  | .exit i, .exit j => i = j
  | .ret, .ret => True
  | _, _ => False

theorem St.drew {P : Program} {B : BS P} {N : Nat} {rf : Bool} {μ0 : Img} {w0 : World} {e : Env} {h : AH} {a : Act} {w : World} (hs : St B N rf μ0 w0 e h a w) : St B N rf μ0 w0 e h a { w with drawn := w.drawn + 1 } := by
  obtain ⟨μ, h0, he, hr, hN, hd, hB⟩ := hs
  exact ⟨μ, h0, he, hr, hN, hd, ⟨hB.os, hB.tape, hB.output, hB.size, hB.block⟩⟩

theorem dstOk_mono {N M : Nat} (h : N ≤ M) : ∀ c : Code, dstOk N c = true → dstOk M c = true
  | .region _ all _, hc => by
    simp only [dstOk, List.all_eq_true] at hc ⊢
    intro o ho
    have := hc o ho
    cases hd : o.dst with
    | none => rfl
    | some d => rw [hd] at this; simp only at this ⊢; rw [Nat.blt_eq] at this ⊢; omega
  | .seq a b, hc => by
    simp only [dstOk, Bool.and_eq_true] at hc ⊢
    exact ⟨dstOk_mono h a hc.1, dstOk_mono h b hc.2⟩
  | .cond _ a b, hc => by
    simp only [dstOk, Bool.and_eq_true] at hc ⊢
    exact ⟨dstOk_mono h a hc.1, dstOk_mono h b hc.2⟩
  | .block _ c, hc => dstOk_mono h c hc
  | .loop c, hc => dstOk_mono h c hc
  | .skip, _ => rfl
  | .rangeFunc _ ps x y, hc => by
    simp only [dstOk, Bool.and_eq_true, List.all_eq_true] at hc ⊢
    refine ⟨⟨fun p hp => ?_, dstOk_mono h x hc.1.2⟩, dstOk_mono h y hc.2⟩
    have := hc.1.1 p hp
    rw [Nat.blt_eq] at this ⊢; omega
  | .exit _, _ => rfl
  | .scope c, hc => dstOk_mono h c hc
  | .label _, _ => rfl
  | .goto _, _ => rfl
  | .ret, _ => rfl
  | .refuse _, _ => rfl

section
variable {F : Fence} {n : Nat} {P : Program} {Q : Exit → Act → World → Prop} {a : Act} {w : World} {b : Frame} {k : List Item} {cs : List Frame}
theorem stepR_scope {c : Code} : step P (lone (b.atR a (.code (.scope c) :: k)) cs w) = .next (lone (b.atR a (.code c :: .inScope c :: k)) cs w) :=
  step_lone_go (by simp [stepG, stepG.exec, Frame.atR])
theorem stepR_inScope {c : Code} : step P (lone (b.atR a (.inScope c :: k)) cs w) = .next (lone (b.atR a k) cs w) :=
  step_lone_go (by simp [stepG, stepG.exec, Frame.atR])
/-- A scope through which a run goes without a jump. -/
theorem wpIn_scope {c : Code} (h : c.wpIn F n P (Exit.noGoto Q) a w) : (Code.scope c).wpIn F n P Q a w := by
  intro b k cs hro hb hr
  have h0 : (lone (b.atR a (.code (.scope c) :: k)) cs w).fenced P F := fenced_calm hb hr rfl
  obtain ⟨e, a₁, w₁, hq, harr⟩ := h b (.inScope c :: k) cs hro hb hr
  cases e with
  | normal => exact ⟨.normal, a₁, w₁, hq, .head h0 stepR_scope (StepsIn.trans harr (.one (fenced_calm hb hr rfl) stepR_inScope))⟩
  | exit id =>
    have hx : exitTo id (.inScope c :: k) = exitTo id k := by simp [exitTo]
    exact ⟨.exit id, a₁, w₁, hq, fun k' hk => .head h0 stepR_scope (harr.1 k' (by rw [hx]; exact hk)),
      fun hr' hk => let ⟨k₁, h1, h2⟩ := harr.2 hr' (by rw [hx]; exact hk); ⟨k₁, h1, .head h0 stepR_scope h2⟩⟩
  | goto l => exact hq.elim
  | ret => exact ⟨_, a₁, w₁, hq, .of_steps (.one h0 stepR_scope) harr⟩
  | panic ch => exact ⟨_, a₁, w₁, hq, .of_steps (.one h0 stepR_scope) harr⟩
  | outgrown => exact ⟨_, a₁, w₁, hq, .of_steps (.one h0 stepR_scope) harr⟩
end

section
variable {P : Program} {T : TT} (hT : TAgree P T) (hmix : P.follows .mixedOrders = true) {B : BS P} {C : Cf} (hC : ∀ B, CallOK P B C) {N : Nat} {rf : Bool} {μ0 : Img} {w0 : World} {ro : Option Nat}
include hT hmix hC

def CPost {P : Program} (B : BS P) (N : Nat) (rf : Bool) (μ0 : Img) (w0 : World) (r : AV × AH) (K : Kt) (ex : Exit) (a : Act) (w : World) : Prop :=
  ∃ ex' e h, exR ex' ex ∧ K ex' e h = some r ∧ St B N rf μ0 w0 e h a w

theorem region_sim {id : Nat} {all : Array Oper} {draw : Bool} (hd : dstOk N (.region id all draw) = true) {e : Env} {h : AH} {K : Kt} {r : AV × AH} {a : Act} {w : World}
    (hst : St B N rf μ0 w0 e h a w) (hok : draw = true → drawOk T all = true)
    (hrun : (draw = false ∨ softs T all = []) ∧ ops C T all all.toList e h (K .normal) = some r ∨
      draw = true ∧ ∃ (es : Nat → Env) (hs : Nat → AH), es 0 = e ∧ hs 0 = h ∧ Tr C T all es hs ∧ K .normal (es all.size) (hs all.size) = some r) :
    (Code.region id all draw).wpIn (WF ro) 0 P (CPost B N rf μ0 w0 r K) a w := by
  have hdd : ∀ (i : Nat) (o : Oper) (d : Nat), all[i]? = some o → o.dst = some d → d < N := by
    intro i o d hi ho
    simp only [dstOk, List.all_eq_true] at hd
    have := hd o (by have := Array.mem_of_getElem? hi; simpa using this)
    rw [ho] at this
    simp only at this
    rw [Nat.blt_eq] at this
    exact this
  cases draw with
  | false =>
    replace hrun : ops C T all all.toList e h (K .normal) = some r := by
      rcases hrun with hrun | hrun
      · exact hrun.2
      · cases hrun.1
    refine wpIn_region ?_
    rw [List.range_eq_range']
    exact ops_sim hT (hC B) ro hdd (K := K .normal) (r := r) (fun e h a w hK hs => ⟨.normal, e, h, trivial, hK, hs⟩) all.size 0 e h a w (by omega) hst (by simpa using hrun)
  | true =>
    refine wpIn_region_any hmix ?_
    obtain ⟨es, hs, e1, e2, tr, e4⟩ : ∃ (es : Nat → Env) (hs : Nat → AH), es 0 = e ∧ hs 0 = h ∧ Tr C T all es hs ∧ K .normal (es all.size) (hs all.size) = some r := by
      rcases hrun with ⟨hsf, hrun⟩ | hrun
      · obtain ⟨es, hs, e1, e2, e3, e4⟩ := tr_exists (C := C) (T := T) (all := all) all.size 0 e h (by omega) (by simpa using hrun)
        have hnil : softs T all = [] := by
          rcases hsf with h | h
          · cases h
          · exact h
        exact ⟨es, hs, e1, e2, ⟨fun i o ho => e3 i o (Nat.zero_le _) ho, fun i lo hi o hm => by rw [hnil] at hm; cases hm⟩, e4⟩
      · exact hrun.2
    have hempty : ∀ n, (∀ t, valR all es (setOf (Array.replicate all.size false)) n t = es 0 t ∨ all.size < n) := by
      intro n t
      induction n with
      | zero => exact .inl rfl
      | succ n ih =>
        rcases ih with ih | ih
        · by_cases hn : n < all.size
          · left
            simp only [valR]
            rw [if_neg, ih]
            rintro ⟨h1, _⟩
            simp [setOf, Array.getD, hn] at h1
          · right; omega
        · right; omega
    have hempty2 : ∀ n, hxR T all (setOf (Array.replicate all.size false)) n = 0 ∨ all.size < n := by
      intro n
      induction n with
      | zero => exact .inl rfl
      | succ n ih =>
        rcases ih with ih | ih
        · by_cases hn : n < all.size
          · left
            simp only [hxR]
            rw [if_neg, ih]
            rintro ⟨h1, _⟩
            simp [setOf, Array.getD, hn] at h1
          · right; omega
        · right; omega
    have hv0 : valR all es (setOf (Array.replicate all.size false)) all.size = e := funext fun t => by
      rcases hempty all.size t with h | h
      · rw [h, e1]
      · omega
    have hx0 : hxR T all (setOf (Array.replicate all.size false)) all.size = 0 := by
      rcases hempty2 all.size with h | h
      · exact h
      · omega
    refine draw_any hT (hC B) ro tr (hok rfl) hdd (N := N) (fun a w hs' => ⟨.normal, _, _, trivial, e4, hs'⟩) all.size (Array.replicate all.size false) a _ (by simp) ?_ ?_
    · exact Nat.le_trans (List.count_le_length (a := false) (l := (Array.replicate all.size false).toList)) (by simp)
    · refine ⟨by rw [hv0, hx0, e2]; exact hst.drew, ?_, ?_⟩
      · intro j hj hS
        simp [setOf, Array.getD, hj] at hS
      · intro m hm b x hb
        rw [hx0] at hm
        have : m = 0 := by omega
        subst this
        rw [e2] at hb ⊢
        obtain ⟨μ, _, _, hr, _⟩ := hst
        exact (hr.blk b x hb).1

theorem regionF_sim {id : Nat} {all : Array Oper} (hd : dstOk N (.region id all true) = true) {e : Env} {h : AH} {K : Kt} {r : AV × AH} {a : Act} {w : World}
    (hst : St B N rf μ0 w0 e h a w) (hok : drawOkF T all = true)
    (hrun : opsF C T all h.next (mts T all) all.toList 0 e ⟨h.next + all.size, h.t⟩ (fun _ => []) [] (fun e' h' st => match softOk C T all st (softsF T all) with
          | true => K .normal e' h'
          | false => none) = some r) :
    (Code.region id all true).wpIn (WF ro) 0 P (CPost B N rf μ0 w0 r K) a w := by
  have hdd : ∀ (i : Nat) (o : Oper) (d : Nat), all[i]? = some o → o.dst = some d → d < N := by
    intro i o d hi ho
    simp only [dstOk, List.all_eq_true] at hd
    have := hd o (by have := Array.mem_of_getElem? hi; simpa using this)
    rw [ho] at this
    simp only at this
    rw [Nat.blt_eq] at this
    exact this
  obtain ⟨es, hs, ct, e1, e2, _, e4, e5, e6⟩ := opsF_ops _ _ _ _ _ _ _ hrun
  simp only [Nat.zero_add, Array.length_toList, List.nil_append] at e4 e5 e6
  have hget : ∀ (k : Nat) (q : Env × AH), ((List.range (all.size + 1)).map fun j => (es j, hs j))[k]? = some q → q = (es k, hs k) := by
    intro k q hq
    rw [List.getElem?_map] at hq
    by_cases hk : k < all.size + 1
    · rw [List.getElem?_range hk] at hq; simpa using hq.symm
    · rw [List.getElem?_eq_none (by simp at hk ⊢; omega)] at hq; simp at hq
  split at e6
  case h_2 => cases e6
  rename_i hsok
  have tr : TrF C T all h.next es hs ct := by
    refine ⟨fun i o ho hf => e4 i o (by simpa using ho) hf, fun i o ho hf => ?_, fun i lo hi o hm ho m hlo hhi => ?_⟩
    · obtain ⟨v, h1, h2, h3⟩ := e5 i o (by simpa using ho) hf
      exact ⟨v, h1, h2, h3⟩
    · obtain ⟨p, v, h1, hp, hv, hall⟩ := softOk_get hsok hm ho
      obtain ⟨p2, h2, hp2, hv2⟩ := hall m hlo hhi
      have e7 := hget i p hp
      have e8 := hget m p2 hp2
      subst e7; subst e8
      exact ⟨v, h1, h2, hv, hv2⟩
  obtain ⟨μ, hμ, he, hr, hN, hdf, hB⟩ := hst.drew
  refine wpIn_region_any hmix ?_
  have hempty : ∀ n, (∀ t, valR all es (setOf (Array.replicate all.size false)) n t = es 0 t ∨ all.size < n) := by
    intro n t
    induction n with
    | zero => exact .inl rfl
    | succ n ih =>
      rcases ih with ih | ih
      · by_cases hn : n < all.size
        · left
          simp only [valR]
          rw [if_neg, ih]
          rintro ⟨h1, _⟩
          simp [setOf, Array.getD, hn] at h1
        · right; omega
      · right; omega
  have hv0 : valR all es (setOf (Array.replicate all.size false)) all.size = e := funext fun t => by
    rcases hempty all.size t with h | h
    · rw [h, e1]
    · omega
  have hS0 : ∀ j, j < all.size → setOf (Array.replicate all.size false) j = false := fun j hj => by simp [setOf, Array.getD, hj]
  have hx0 : hxP (isEff T all) (setOf (Array.replicate all.size false)) all.size = 0 := by
    have := hxP_eq (p := isEff T all) (S := setOf (Array.replicate all.size false)) (m := 0) (fun j hj => by omega) all.size (Nat.zero_le _) (fun j _ hj _ => hS0 j hj)
    rw [this]; rfl
  have hEn : ∀ b, ¬ Ear T all (setOf (Array.replicate all.size false)) 0 b := fun b hb => by
    have := hb.2.2.1
    rw [hS0 b hb.1] at this; cases this
  have hQ : ∀ a w, St B N rf μ w0 (es all.size) (matz all h.next (mts T all) ct all.size all.size (hs all.size)) a w → CPost B N rf μ0 w0 r K .normal a w := by
    rintro a w ⟨μ', q1, q2⟩
    exact ⟨.normal, _, _, trivial, e6, μ', hμ.trans q1, q2⟩
  refine draw_anyF hT hC ro tr hok hdd hQ all.size (Array.replicate all.size false) a _ (by simp) ?_ ?_
  · exact Nat.le_trans (List.count_le_length (a := false) (l := (Array.replicate all.size false).toList)) (by simp)
  · refine ⟨?_, fun j hj hS => ?_, fun b hb => (hr.res b hb).2⟩
    · rw [hx0, hv0, e2]
      refine ⟨⟨μ.m, μ.fz, μ.old, fun b => μ.res b ∨ ∃ a, a < all.size ∧ freeAt all a = true ∧ setOf (Array.replicate all.size false) a = false ∧ b = h.next + a⟩, fun _ => 0, Img.sub_same _ _ _, fun cb arr hf => .inl hf, fun k => ?_, fun b => Iff.rfl, fun t => (he t).sub (Img.sub_same _ _ _), ?_, hN, ?_, hB, fun b hb => absurd hb (hEn b), fun b b' hb => absurd hb (hEn b)⟩
      · constructor
        · exact .inl
        · rintro (h | ⟨b, hb, _⟩)
          · exact h
          · exact absurd hb (hEn b)
      · have hBeq : (fun k => B k ∨ ∃ b, Ear T all (setOf (Array.replicate all.size false)) 0 b ∧ (fun _ => 0) b = k) = B := by
          funext k
          apply propext
          constructor
          · rintro (h | ⟨b, hb, _⟩)
            · exact h
            · exact absurd hb (hEn b)
          · exact .inl
        rw [hBeq]
        have hr1 : HR B μ ⟨h.next + all.size, h.t⟩ w.heap := by
          refine ⟨fun b x hb => ⟨by have := (hr.dom b x hb).1; show b < h.next + all.size; omega, (hr.dom b x hb).2⟩, fun b x hb => ?_, hr.inj, hr.base, hr.frz, hr.old, fun b hb => ⟨(hr.res b hb).1, by have := (hr.res b hb).2; show b < h.next + all.size; omega⟩, hr.tab⟩
          have h1 := hr.blk b x hb
          exact ⟨by show b < h.next + all.size; have := h1.1; omega, h1.2⟩
        refine hr1.setOR hr.old fun b hb => ?_
        rcases hb with hb | ⟨c, h1, _, _, rfl⟩
        · exact hr1.res b hb
        · refine ⟨?_, by show h.next + c < h.next + all.size; omega⟩
          cases hm : μ (h.next + c) with
          | none => rfl
          | some x => have := (hr.dom _ x hm).1; omega
      · cases hrf : rf with
        | false => rw [hrf] at hdf; exact hdf
        | true =>
          rw [hrf] at hdf
          obtain ⟨q1, cbs, q2, q3, q4⟩ := hdf
          exact ⟨q1, cbs, q2, q3, fun i m hi => let ⟨c, δ, M, g1, g2⟩ := q4 i m hi; ⟨c, δ, M, g1, g2⟩⟩
    · rw [hS0 j hj] at hS; cases hS

theorem endRange_sim {fr : Bool} (hro : rf = true) {K : Kt} {r : AV × AH} {e : Env} {l : Nat} {h3 : AH} {a : Act} {w3 : World} (hend : endRange K e l h3 = some r) {μ : Img} (hμ : μ0.le μ) (he : ER μ e a)
    (hr : HR B μ h3 w3.heap) {cb δ M : Nat} (hm : μ l = some (cb, δ, M)) (hN : a.tmps.size = N) (hdf : DefM rf N μ e a.defers) (hB : BelowS B w0 w3) :
    ∃ jump w4, (Instr.endLoop cb).run P w3 = .ok jump w4 ∧ (match jump with
      | none => CPost B N rf μ0 w0 r K .normal a w4
      | some c => c.wpIn (WF ro) 0 P (CPost B N rf μ0 w0 r K) a w4) := by
  unfold endRange at hend
  split at hend
  · rename_i e' ps asg bdy hl
    obtain ⟨_, cb', δ', N', rc, g1, g2, g3, g4, g5, g6, g7, g8, g9, g10, g11⟩ := hr.blk l _ hl
    rw [hm] at g1; cases g1
    obtain ⟨s1, s2⟩ := g11
    have hrun := run_endLoop (P := P) g2 (by rw [s1]; simp)
    rw [s2] at hrun
    have hlt : cb < w3.heap.size := (Array.getElem?_eq_some_iff.1 g2).1
    exact ⟨none, _, hrun, .normal, e, _, trivial, hend, μ, hμ, he, hr.write hl rfl hm g3 trivial, hN, hdf, hB.trans (below_set w3 cb _ g3)⟩
  · rename_i e' ps asg bdy ex hl
    obtain ⟨_, cb', δ', N', rc, g1, g2, g3, g4, g5, g6, g7, g8, g9, g10, g11⟩ := hr.blk l _ hl
    rw [hm] at g1; cases g1
    obtain ⟨s1, s2⟩ := g11
    have hrun : (Instr.endLoop cb).run P w3 = .ok (some (exCode ex)) (w3.putObj cb (.loop { rc with state := .exhausted })) := by
      rw [run_endLoop (P := P) g2 (by rw [s1]; simp), s2]
    have hlt : cb < w3.heap.size := (Array.getElem?_eq_some_iff.1 g2).1
    have hst : St B N rf μ0 w0 e (h3.put l .dead) a (w3.putObj cb (.loop { rc with state := .exhausted })) := ⟨μ, hμ, he, hr.write hl rfl hm g3 trivial, hN, hdf, hB.trans (below_set w3 cb _ g3)⟩
    refine ⟨some (exCode ex), _, hrun, ?_⟩
    cases ex with
    | normal => exact wpIn_skip ⟨.normal, e, _, trivial, hend, hst⟩
    | exit i => exact wpIn_exit ⟨.exit i, e, _, rfl, hend, hst⟩
    | ret => exact wpIn_ret ⟨.ret, e, _, trivial, hend, hst⟩
  · cases hend

theorem range_sim (n : Nat) {r : AV × AH} {f : Operand} {ps : Array Tmp} {asg bdy : Code} {e : Env} {h : AH} {K : Kt} {a : Act} {w : World} (hrun : code C T n rf (.rangeFunc f ps asg bdy) e h K = some r)
    (hd : dstOk N (.rangeFunc f ps asg bdy) = true) (hst : St B N rf μ0 w0 e h a w) (hrr : rf = true → ro = none) : (Code.rangeFunc f ps asg bdy).wpIn (WF ro) 0 P (CPost B N rf μ0 w0 r K) a w := by
  cases hrf : rf with
  | false => rw [hrf] at hrun; simp [code] at hrun
  | true =>
  rw [hrf] at hrun
  simp only [code, Option.bind_eq_some_iff] at hrun
  obtain ⟨⟨v, h3⟩, hcall, hend⟩ := hrun
  have hro := hrr hrf
  subst hro
  rw [← hrf]
  obtain ⟨μ, hμ, he, hr, hN, hdf, hB⟩ := hst
  simp only [dstOk, Bool.and_eq_true, List.all_eq_true] at hd
  unfold callF at hcall
  split at hcall
  case h_2 => cases hcall
  rename_i g first caps hf
  have hfv := ev_sim he f
  rw [hf] at hfv
  obtain ⟨fs, cs, hfe, h1, h2⟩ := hfv.fn_inv
  cases hgY : Nat.beq g YLD with
  | true => simp [hgY] at hcall
  | false =>
  rw [hgY] at hcall
  simp only [cond_false] at hcall
  obtain ⟨henter, hcalls⟩ := (hC B _ _ _ _ _ hcall).1 hgY
  refine wpIn_rangeFunc ?_
  intro fn _
  obtain ⟨rc, hrc⟩ : ∃ rc : Loop, rc = { state := .ready, pending := none, fn, tmps := a.tmps, params := ps, assign := asg, body := bdy, defers := w.heap.size } := ⟨_, rfl⟩
  obtain ⟨μ1, hμ1⟩ : ∃ μ1, μ1 = μ.upd h.next (w.heap.size, 0, 0) := ⟨_, rfl⟩
  have hle1 : μ.le μ1 := by rw [hμ1]; exact Img.le_upd hr.fresh
  have hr1 : HR B μ1 (h.alloc .dfr) (w.alloc (.deferred (some []))).heap := by
    rw [hμ1]
    exact hr.alloc .dfr (.deferred (some [])) 0 0 ⟨w.heap.size, 0, 0, upd_self _ _ _, by simp, fun hb => absurd (hr.base _ hb) (Nat.lt_irrefl _)⟩
  obtain ⟨μ2, hμ2⟩ : ∃ μ2, μ2 = μ1.upd (h.next + 1) (w.heap.size + 1, 0, 0) := ⟨_, rfl⟩
  have hfr1 : μ1 (h.next + 1) = none := by have := hr1.fresh; simpa using this
  have hle2 : μ1.le μ2 := by rw [hμ2]; exact Img.le_upd hfr1
  have hsz1 : (w.alloc (.deferred (some []))).heap.size = w.heap.size + 1 := World.size_alloc _ _
  have hr2 : HR B μ2 ((h.alloc .dfr).alloc (.loop e ps.toList asg bdy .ready)) ((w.alloc (.deferred (some []))).alloc (.loop rc)).heap := by
    have := hr1.alloc (.loop e ps.toList asg bdy .ready) (.loop rc) 0 0 (by
      refine ⟨w.heap.size + 1, 0, 0, rc, ?_, ?_, ?_, by rw [hrc], by rw [hrc], by rw [hrc], ?_, ?_, ?_, ?_, by rw [hrc]; exact ⟨rfl, rfl⟩⟩
      · rw [upd_self, hsz1]
      · rw [← hsz1]; exact World.alloc_heap_new _ _
      · intro hb; have := hr.base _ hb; omega
      · intro t
        rw [hrc]
        have hle3 : μ1.le (μ1.upd (h.alloc .dfr).next ((w.alloc (.deferred (some []))).heap.size, 0, 0)) := Img.le_upd hr1.fresh
        exact ((he t).mono hle1).mono hle3
      · intro p hp
        rw [hrc]
        have := hd.1.1 p hp
        rw [Nat.blt_eq] at this
        show p < a.tmps.size
        omega
      · rw [hrc]; show dstOk a.tmps.size asg = true; rw [hN]; exact hd.1.2
      · rw [hrc]; show dstOk a.tmps.size bdy = true; rw [hN]; exact hd.2)
    rw [hsz1] at this
    rw [hμ2]
    exact this
  have hmy : μ2 (h.next + 1) = some (w.heap.size + 1, 0, 0) := by rw [hμ2]; exact upd_self _ _ _
  have hargs : VRL μ2 (first ++ [.yld (h.next + 1)] ++ caps) (fs.toList ++ [.func (.yield (w.heap.size + 1)) #[] #[]] ++ cs.toList) := by
    refine ((((h1.mono hle1).mono hle2).append (VRL.cons ?_ VRL.nil)).append ((h2.mono hle1).mono hle2))
    rw [VR]; exact ⟨_, _, _, hmy, rfl⟩
  have hc := hcalls μ2 _ _ hargs hr2
  have harr : (fs.toList ++ [Value.func (.yield (w.heap.size + 1)) #[] #[]] ++ cs.toList).toArray = fs ++ #[.func (.yield (w.heap.size + 1)) #[] #[]] ++ cs := by apply Array.ext'; simp
  rw [harr] at hc
  obtain ⟨W2, hW2⟩ : ∃ W2, W2 = (w.alloc (.deferred (some []))).alloc (.loop rc) := ⟨_, rfl⟩
  rw [← hW2] at hc hr2
  have e1 : (Instr.enterLoop fn a.tmps ps asg bdy (WF none).round).run P w = .ok (w.heap.size + 1, [{ target := .collected w.heap.size, args := #[] }]) W2 := by
    rw [hW2, hrc]; exact run_enterLoop_outer fn a.tmps ps asg bdy
  have e2 : (resolve a.eval (rangeCall f (w.heap.size + 1)) 0).run P W2 = .ok { target := .fn (.func g) cs, args := fs ++ #[.func (.yield (w.heap.size + 1)) #[] #[]] } W2 := by
    have hp : (fs ++ #[Value.func (.yield (w.heap.size + 1)) #[] #[]]) = fs ++ #[a.eval (.const (.func (.yield (w.heap.size + 1)) #[] #[]))] := rfl
    rw [hp]
    simp only [resolve, hfe, Deferred.ofValue, Sem.run_pure]
    simp
  have e3 : (invoke (.fn (.func g) cs) (fs ++ #[.func (.yield (w.heap.size + 1)) #[] #[]])).run P W2 = .ok (.enter g (fs ++ #[.func (.yield (w.heap.size + 1)) #[] #[]] ++ cs)) W2 := by
    simp [invoke, henter]
  have hci : CallsIn (WF none) (0 - 1) P g (fs ++ #[.func (.yield (w.heap.size + 1)) #[] #[]] ++ cs) W2
      (rangePost (WF none) 0 P (w.heap.size + 1) (CPost B N rf μ0 w0 r K) { a with defers := [{ target := .collected w.heap.size, args := #[] }] ++ a.defers }) := by
    refine CallsIn.mono (WF_calls (ro := none) hc) ?_
    rintro e3 w3 ⟨v', rfl, μ3, hle3, hv3, hr3, hB3⟩
    have hB1 : BelowS B w W2 := by
      rw [hW2]
      have b1 := below_push w (.deferred (some [])) hr.base
      have b2 := below_push (w.alloc (.deferred (some []))) (.loop rc) hr1.base
      exact BelowS.trans b1 b2
    have hle0 : μ.le μ3 := (hle1.trans hle2).trans hle3
    have hD1 : μ1 h.next = some (w.heap.size, 0, 0) := by rw [hμ1]; exact upd_self _ _ _
    have hD3 : μ3 h.next = some (w.heap.size, 0, 0) := hle3.m h.next (w.heap.size, 0, 0) (hle2.m h.next (w.heap.size, 0, 0) hD1)
    refine endRange_sim hT hmix hC (fr := true) hrf (a := { a with defers := [{ target := .collected w.heap.size, args := #[] }] ++ a.defers }) hend (hμ.trans hle0) ?_ hr3 (hle3.m _ _ hmy) hN ?_ ((hB.trans hB1).trans hB3)
    · intro t
      simp only [Env.set]
      cases hb : Nat.beq t HID with
      | true => simp only; rw [VR]; trivial
      | false => exact (he t).mono hle0
    · have hdf' := hdf.mono hle0
      rw [hrf] at hdf' ⊢
      obtain ⟨hNH, cbs, q1, q2, q3⟩ := hdf'
      refine ⟨hNH, w.heap.size :: cbs, ?_, ?_, ?_⟩
      · show _ :: a.defers = _; rw [q1]; rfl
      · rw [Env.set_same]; simp [marks, q2]
      · intro i m hi
        rw [Env.set_same] at hi
        simp only [marks] at hi
        cases i with
        | zero =>
          simp at hi; subst hi
          exact ⟨w.heap.size, 0, 0, rfl, hD3⟩
        | succ i =>
          simp at hi
          obtain ⟨c, δ, M, g1, g2⟩ := q3 i m hi
          exact ⟨c, δ, M, by simpa using g1, g2⟩
  refine ⟨w.heap.size + 1, [{ target := .collected w.heap.size, args := #[] }], W2, { target := .fn (.func g) cs, args := fs ++ #[.func (.yield (w.heap.size + 1)) #[] #[]] }, W2, g,
    fs ++ #[.func (.yield (w.heap.size + 1)) #[] #[]] ++ cs, W2, e1, e2, fun f' _ => WF_fn none f', e3, ?_, ?_⟩
  · exact WF_depth none
  · exact hci

theorem code_sim (n : Nat) {r : AV × AH} : ∀ (c : Code) (e : Env) (h : AH) (K : Kt) (a : Act) (w : World), code C T n rf c e h K = some r → dstOk N c = true → St B N rf μ0 w0 e h a w → (rf = true → ro = none) →
    c.wpIn (WF ro) 0 P (CPost B N rf μ0 w0 r K) a w
  | .skip, e, h, K, a, w, hrun, hd, hst, hrr => wpIn_skip ⟨.normal, e, h, trivial, hrun, hst⟩
  | .region id all draw, e, h, K, a, w, hrun, hd, hst, hrr => by
    simp only [code] at hrun
    cases draw with
    | false => exact region_sim hT hmix hC hd hst (by simp) (.inl ⟨.inl rfl, hrun⟩)
    | true =>
      simp only at hrun
      cases hok : drawOk T all with
      | false =>
        rw [hok] at hrun
        simp only at hrun
        cases hokF : drawOkF T all with
        | false => simp [hokF] at hrun
        | true =>
        rw [hokF] at hrun
        simp only at hrun
        exact regionF_sim hT hmix hC hd hst hokF hrun
      | true =>
        rw [hok] at hrun
        refine region_sim hT hmix hC hd hst (fun _ => hok) ?_
        cases hsf : softs T all with
        | nil =>
          rw [hsf] at hrun
          exact .inl ⟨.inr rfl, hrun⟩
        | cons s ss =>
          rw [hsf] at hrun
          simp only at hrun
          obtain ⟨es, hs, e1, e2, e3, e4⟩ := opsTr_ops _ _ _ _ _ hrun
          refine .inr ⟨rfl, es, hs, e1, e2, ⟨fun i o ho => e3 i o (by simpa using ho), ?_⟩, ?_⟩
          · intro i lo hi o hm ho m hlo hhi
            split at e4
            · rename_i hok2
              rw [← hsf] at hok2
              obtain ⟨p, v, h1, hp, hv, hall⟩ := softOk_get hok2 hm ho
              obtain ⟨p2, h2, hp2, hv2⟩ := hall m hlo hhi
              have hget : ∀ (k : Nat) (q : Env × AH), (([] : List (Env × AH)) ++ (List.range (all.toList.length + 1)).map fun j => (es j, hs j))[k]? = some q → q = (es k, hs k) := by
                intro k q hq
                rw [List.nil_append, List.getElem?_map] at hq
                by_cases hk : k < all.toList.length + 1
                · rw [List.getElem?_range hk] at hq; simpa using hq.symm
                · rw [List.getElem?_eq_none (by simp at hk ⊢; omega)] at hq; simp at hq
              have e5 := hget i p hp
              have e6 := hget m p2 hp2
              subst e5; subst e6
              exact ⟨v, h1, h2, hv, hv2⟩
            · cases e4
          · split at e4
            · simpa using e4
            · cases e4
  | .seq x y, e, h, K, a, w, hrun, hd, hst, hrr => by
    simp only [dstOk, Bool.and_eq_true] at hd
    refine wpIn_seq (wpIn_mono (code_sim n x e h _ a w hrun hd.1 hst hrr) ?_)
    rintro ex a' w' ⟨ex', e', h', hex, hK, hst'⟩
    cases ex' with
    | normal =>
      cases ex <;> simp only [exR] at hex
      exact code_sim n y e' h' K a' w' hK hd.2 hst' hrr
    | exit i =>
      cases ex <;> simp only [exR] at hex
      subst hex
      exact ⟨.exit i, e', h', rfl, hK, hst'⟩
    | ret =>
      cases ex <;> simp only [exR] at hex
      exact ⟨.ret, e', h', trivial, hK, hst'⟩
  | .cond c x y, e, h, K, a, w, hrun, hd, hst, hrr => by
    simp only [dstOk, Bool.and_eq_true] at hd
    simp only [code, aCond] at hrun
    have hc : ∀ b, ev e c = .bool b → a.eval c = .bool b := by
      intro b hb
      obtain ⟨μ, _, he, _⟩ := hst
      have := ev_sim he c
      rw [hb] at this
      exact this.bool_inv
    split at hrun
    · rename_i hb; exact wpIn_cond_true (hc true hb) (code_sim n x e h K a w hrun hd.1 hst hrr)
    · rename_i hb; exact wpIn_cond_false (hc false hb) (code_sim n y e h K a w hrun hd.2 hst hrr)
    · cases hrun
  | .block id c, e, h, K, a, w, hrun, hd, hst, hrr => by
    refine wpIn_block (wpIn_mono (code_sim n c e h _ a w hrun hd hst hrr) ?_)
    rintro ex a' w' ⟨ex', e', h', hex, hK, hst'⟩
    cases ex' with
    | normal =>
      cases ex <;> simp only [exR] at hex
      exact ⟨.normal, e', h', trivial, hK, hst'⟩
    | exit i =>
      cases ex <;> simp only [exR] at hex
      subst hex
      simp only [blkK] at hK
      simp only [Exit.inBlock]
      cases hb : Nat.beq i id with
      | true =>
        have := Nat.eq_of_beq_eq_true hb
        rw [hb] at hK
        rw [if_pos this]
        exact ⟨.normal, e', h', trivial, hK, hst'⟩
      | false =>
        have := Nat.ne_of_beq_eq_false hb
        rw [hb] at hK
        rw [if_neg this]
        exact ⟨.exit i, e', h', rfl, hK, hst'⟩
    | ret =>
      cases ex <;> simp only [exR] at hex
      exact ⟨.ret, e', h', trivial, hK, hst'⟩
  | .loop c, e, h, K, a, w, hrun, hd, hst, hrr => by
    have key : ∀ m e h a w, iterL m (code C T n rf c) e h K = some r → St B N rf μ0 w0 e h a w → Code.roundsIn (WF ro) 0 P c (CPost B N rf μ0 w0 r K) m a w := by
      intro m
      induction m with
      | zero => intro e h a w hr; simp [iterL] at hr
      | succ m ih =>
        intro e h a w hr hs
        rw [roundsIn_succ]
        refine wpIn_mono (code_sim n c e h _ a w hr hd hs hrr) ?_
        rintro ex a' w' ⟨ex', e', h', hex, hK, hst'⟩
        cases ex' with
        | normal =>
          cases ex <;> simp only [exR] at hex
          exact ih e' h' a' w' hK hst'
        | exit i =>
          cases ex <;> simp only [exR] at hex
          subst hex
          exact ⟨.exit i, e', h', rfl, hK, hst'⟩
        | ret =>
          cases ex <;> simp only [exR] at hex
          exact ⟨.ret, e', h', trivial, hK, hst'⟩
    exact wpIn_loop_rounds n (key n e h a w hrun hst)
  | .exit id, e, h, K, a, w, hrun, hd, hst, hrr => wpIn_exit ⟨.exit id, e, h, rfl, hrun, hst⟩
  | .ret, e, h, K, a, w, hrun, hd, hst, hrr => wpIn_ret ⟨.ret, e, h, trivial, hrun, hst⟩
  | .rangeFunc f ps asg bdy, e, h, K, a, w, hrun, hd, hst, hrr => range_sim hT hmix hC n hrun hd hst hrr
  | .scope c, e, h, K, a, w, hrun, hd, hst, hrr => by
    refine wpIn_scope (wpIn_mono (code_sim n c e h K a w hrun hd hst hrr) ?_)
    rintro ex a' w' ⟨ex', e', h', hex, hK, hst'⟩
    cases ex <;> first | exact ⟨ex', e', h', hex, hK, hst'⟩ | (cases ex' <;> simp only [exR] at hex)
  | .label _, e, h, K, a, w, hrun, hd, hst, hrr => wpIn_label ⟨.normal, e, h, trivial, hrun, hst⟩
  | .goto _, e, h, K, a, w, hrun, hd, hst, hrr => by simp [code] at hrun
  | .refuse _, e, h, K, a, w, hrun, hd, hst, hrr => by simp [code] at hrun

end

theorem setPs_sim {μ : Img} : ∀ (ps : List Nat) (as : List AV) (vs : List Value) (e : Env) (tmps : Array Value), (∀ t, VR μ (e t) (tmps.getD t undef)) → VRL μ as vs → (∀ p ∈ ps, p < tmps.size) → as.length = ps.length →
    (∀ t, VR μ (setPs e ps as t) (((ps.zip vs).foldl (fun tmps (t, a) => tmps.setIfInBounds t a) tmps).getD t undef)) ∧ ((ps.zip vs).foldl (fun tmps (t, a) => tmps.setIfInBounds t a) tmps).size = tmps.size
  | [], as, vs, e, tmps, he, hv, hp, hl => by
    cases as with
    | nil => exact ⟨by simpa [setPs] using he, by simp⟩
    | cons _ _ => simp at hl
  | p :: ps, as, vs, e, tmps, he, hv, hp, hl => by
    cases as with
    | nil => simp at hl
    | cons a as =>
      obtain ⟨v, rest, rfl, h1, h2⟩ := hv.cons_inv
      have := setPs_sim ps as rest (e.set p a) (tmps.setIfInBounds p v) (fun t => by
        have hlt := hp p (by simp)
        simp only [Env.set]
        cases hb : Nat.beq t p with
        | true =>
          have := Nat.eq_of_beq_eq_true hb
          subst this
          have : (tmps.setIfInBounds t v).getD t undef = v := by simp [Array.getD, hlt]
          rw [this]; exact h1
        | false =>
          have hne := Nat.ne_of_beq_eq_false hb
          have : (tmps.setIfInBounds p v).getD t undef = tmps.getD t undef := by
            simp only [Array.getD_eq_getD_getElem?]
            rw [Array.getElem?_setIfInBounds_ne (fun e => hne e.symm)]
          rw [this]; exact he t) h2 (fun q hq => by simpa using hp q (by simp [hq])) (by simpa using hl)
      refine ⟨?_, ?_⟩
      · simpa [setPs] using this.1
      · simpa using this.2

theorem yield_sim {P : Program} {T : TT} (hT : TAgree P T) (hmix : P.follows .mixedOrders = true) {B : BS P} {C : Cf} (hC : ∀ B, CallOK P B C) (n : Nat) {l : Nat} {as : List AV} {h : AH} {v : AV} {h' : AH}
    (hc : yieldRun C T n (.yld l :: as) h = some (v, h')) (μ : Img) (w : World) (vs : List Value) (cb δ N : Nat) (hvs : VRL μ as vs) (hr : HR B μ h w.heap) (hm : μ l = some (cb, δ, N)) :
    YieldOK P cb vs w (fun e w' => ∃ v', e = .returned v' ∧ Grows B μ w v h' v' w') := by
  unfold yieldRun at hc
  simp only at hc
  split at hc
  case h_2 => cases hc
  rename_i e ps asg bdy hl
  split at hc
  case isFalse => cases hc
  rename_i hlen
  obtain ⟨_, cb', δ', N', rc, g1, g2, g3, g4, g5, g6, g7, g8, g9, g10, g11⟩ := hr.blk l _ hl
  rw [hm] at g1; cases g1
  have hvl := hvs.length
  have hps : vs.toArray.size = rc.params.size := by
    have : rc.params.toList.length = ps.length := by rw [g4]
    simp at this ⊢; omega
  have hy := run_yield (P := P) g2 hps
  have hfold : (rc.params.zip vs.toArray).foldl (fun tmps (t, a) => tmps.setIfInBounds t a) rc.tmps = (ps.zip vs).foldl (fun tmps (t, a) => tmps.setIfInBounds t a) rc.tmps := by
    rw [← Array.foldl_toList, Array.toList_zip, g4]
  obtain ⟨p1, p2⟩ := setPs_sim ps as vs e rc.tmps g7 hvs g8 hlen
  rw [hfold] at hy
  rw [g5, g6] at hy
  refine ⟨rc.fn, _, asg, bdy, hy, roundIn_of_wpIn trivial ?_⟩
  generalize htm : (ps.zip vs).foldl (fun tmps (t, a) => tmps.setIfInBounds t a) rc.tmps = tm at *
  have hst : St B tm.size false μ w (setPs e ps as) h { tmps := tm, defers := [] } w := ⟨μ, Img.le.refl μ, p1, hr, rfl, rfl, .refl _ _⟩
  refine wpIn_mono (code_sim hT hmix hC (ro := some cb) n asg _ _ _ _ _ hc (by rw [p2]; exact g9) hst (by simp)) ?_
  rintro ex a1 w1 ⟨ex', e1, h1, hex, hK, μ1, hμ1, he1, hr1, hN1, hd1, hB1⟩
  cases ex' with
  | exit i => simp [midRound] at hK
  | ret => simp [midRound] at hK
  | normal =>
  cases ex <;> simp only [exR] at hex
  simp only [midRound] at hK
  split at hK
  case h_2 => cases hK
  rename_i e2 ps2 asg2 bdy2 hl1
  have hm1 := hμ1.m _ _ hm
  obtain ⟨_, cb', δ', N', rc1, k1, k2, k3, k4, k5, k6, k7, k8, k9, k10, k11⟩ := hr1.blk l _ hl1
  rw [hm1] at k1; cases k1
  have hbr := run_beginRound (P := P) k2 k11.1
  have hlt1 : cb < w1.heap.size := (Array.getElem?_eq_some_iff.1 k2).1
  have hr1' : HR B μ1 (h1.put l (.loop e2 ps2 asg2 bdy2 .busy)) (w1.putObj cb (.loop { rc1 with state := .busy })).heap :=
    hr1.write hl1 rfl hm1 k3 ⟨cb, _, _, { rc1 with state := .busy }, hm1, by simp [hlt1], k3, k4, k5, k6, k7, k8, k9, k10, rfl, k11.2⟩
  have hst1 : St B tm.size false μ w e1 (h1.put l (.loop e2 ps2 asg2 bdy2 .busy)) a1 (w1.putObj cb (.loop { rc1 with state := .busy })) :=
    ⟨μ1, hμ1, he1, hr1', hN1, hd1, hB1.trans (below_set w1 cb _ k3)⟩
  refine ⟨_, hbr, wpIn_mono (code_sim hT hmix hC (ro := some cb) n bdy _ _ _ _ _ hK (by rw [p2]; exact g10) hst1 (by simp)) ?_⟩
  rintro ex a3 w3 ⟨ex', e3, h3, hex, hK3, μ3, hμ3, he3, hr3, hN3, hd3, hB3⟩
  have hm3 := hμ3.m _ _ hm
  unfold endRound at hK3
  split at hK3
  case h_2 => cases hK3
  rename_i e4 ps4 asg4 bdy4 hl3
  obtain ⟨_, cb', δ', N', rc3, q1, q2, q3, q4, q5, q6, q7, q8, q9, q10, q11⟩ := hr3.blk l _ hl3
  rw [hm3] at q1; cases q1
  have hlt3 : cb < w3.heap.size := (Array.getElem?_eq_some_iff.1 q2).1
  have hend : ∀ jump : Option Code, (Instr.endRound cb jump).run P w3 = .ok (.bool jump.isNone) (w3.putObj cb (.loop { rc3 with state := if jump.isNone then .ready else .done, pending := jump })) := fun jump => run_endRound (P := P) jump q2
  have fin : ∀ (st : LSt) (jump : Option Code), LStR st (if jump.isNone then .ready else .done) jump →
      Grows B μ w (.bool jump.isNone) (h3.put l (.loop e4 ps4 asg4 bdy4 st)) (.bool jump.isNone) (w3.putObj cb (.loop { rc3 with state := if jump.isNone then .ready else .done, pending := jump })) := by
    intro st jump hj
    exact ⟨μ3, hμ3, VR.mk_bool _, hr3.write hl3 rfl hm3 q3 ⟨cb, _, _, { rc3 with state := if jump.isNone then .ready else .done, pending := jump }, hm3, by simp [hlt3], q3, q4, q5, q6, q7, q8, q9, q10, hj⟩, hB3.trans (below_set w3 cb _ q3)⟩
  cases ex' with
  | normal =>
    cases ex <;> simp only [exR] at hex
    simp only [Option.some.injEq, Prod.mk.injEq] at hK3
    obtain ⟨rfl, rfl⟩ := hK3
    exact ⟨_, _, hend none, _, rfl, fin .ready none ⟨rfl, rfl⟩⟩
  | exit i =>
    cases ex <;> simp only [exR] at hex
    subst hex
    simp only [Option.some.injEq, Prod.mk.injEq] at hK3
    obtain ⟨rfl, rfl⟩ := hK3
    exact ⟨_, _, hend (some (.exit i)), _, rfl, fin (.done (.exit i)) (some (.exit i)) ⟨rfl, rfl⟩⟩
  | ret =>
    cases ex <;> simp only [exR] at hex
    simp only [Option.some.injEq, Prod.mk.injEq] at hK3
    obtain ⟨rfl, rfl⟩ := hK3
    exact ⟨_, _, hend (some .ret), _, rfl, fin (.done .ret) (some .ret) ⟨rfl, rfl⟩⟩

/-- The table of functions is the program's. -/
structure FAgree (P : Program) (F : Nat → Option FI) : Prop where
  fn : ∀ f fi, F f = some fi → ∃ fn, P.funcs[f]? = some fn ∧ fn.body = some fi.body ∧ fn.results.toList = fi.results ∧ dstOk fn.ntmps fi.body = true ∧ (fn.name == "runtime.NumGoroutine") = false ∧
    (fi.rf = true → fn.ntmps ≤ HID)

/-- What is known of functions that are taken by what they do. -/
structure IAgree (P : Program) (I : Nat → Option (List AV → AH → Rs)) : Prop where
  fn : ∀ f g, I f = some g → (∀ (as : Array Value) (w : World), (callFunc f as).run P w = .ok (.enter f as) w) ∧
    ∀ (args : List AV) (h : AH) (v : AV) (h' : AH), g args h = some (v, h') → ∀ (B : BS P) (μ : Img) (vs : List Value) (w : World), VRL μ args vs → HR B μ h w.heap →
      Calls P f vs.toArray w (fun e w' => ∃ v', e = .returned v' ∧ Grows B μ w v h' v' w')

theorem HR.below {P : Program} {B : BS P} {μ : Img} {h : AH} {w w' : World} (hr : HR B μ h w.heap) (hB : BelowS (· < w.heap.size) w w') : HR B μ h w'.heap := by
  refine ⟨fun b x hb => ⟨(hr.dom b x hb).1, Nat.lt_of_lt_of_le (hr.dom b x hb).2 hB.size⟩, fun b x hb => ⟨(hr.blk b x hb).1, (hr.blk b x hb).2.keep (Img.le.refl _) fun cb δ N hm => hB.block cb (hr.dom b _ hm).2⟩, hr.inj,
    fun k hk => Nat.lt_of_lt_of_le (hr.base k hk) hB.size, fun cb arr hf => ?_, fun k hk => Nat.lt_of_lt_of_le (hr.old k hk) hB.size, hr.res, hr.tab⟩
  obtain ⟨⟨el, f, hc⟩, hn⟩ := hr.frz cb arr hf
  exact ⟨⟨el, f, by rw [hB.block cb (hr.frz_lt hf)]; exact hc⟩, hn⟩

theorem results_sim {P : Program} {T : TT} (hT : TAgree P T) {B : BS P} {μ : Img} {e : Env} {a : Act} (he : ER μ e a) {h : AH} {w : World} (hr : HR B μ h w.heap) :
    ∀ (rs : List ResultVar) (vs : List AV), resultsOf T rs e h = some vs → ∃ us : List Value, VRL μ vs us ∧
      ∀ f : ResultVar → Sem Value, (∀ t, f (.tmp t) = pure (a.tmps.getD t undef)) → (∀ b t, f (.cell b t) = (do loadVar t (← asAddr (a.tmps.getD b undef)))) → (rs.mapM f).run P w = .ok us w
  | [], vs, hrs => by
    simp only [resultsOf, Option.some.injEq] at hrs; subst hrs
    exact ⟨[], VRL.nil, fun f _ _ => by simp⟩
  | .tmp t :: rs, vs, hrs => by
    simp only [resultsOf, Option.map_eq_some_iff] at hrs
    obtain ⟨vs', hvs', rfl⟩ := hrs
    obtain ⟨us, hv, hrun⟩ := results_sim hT he hr rs vs' hvs'
    refine ⟨a.tmps.getD t undef :: us, VRL.cons (he t) hv, fun f h1 h2 => ?_⟩
    simp only [List.mapM_cons, Sem.run_bind, h1, Sem.run_pure, Result.andThen_ok, hrun f h1 h2]
  | .cell b t :: rs, vs, hrs => by
    simp only [resultsOf, Option.bind_eq_some_iff, Option.map_eq_some_iff] at hrs
    obtain ⟨v, hv, vs', hvs', rfl⟩ := hrs
    obtain ⟨us, hvr, hrun⟩ := results_sim hT he hr rs vs' hvs'
    obtain ⟨v', hload, hv'⟩ := load_sim hT hr (he b) hv
    refine ⟨v' :: us, VRL.cons hv' hvr, fun f h1 h2 => ?_⟩
    have hptr : ∃ ad, a.tmps.getD b undef = .pointer (some ad) := by
      unfold aLoad at hv
      have heb := he b
      split at hv
      · rename_i bb oo heq
        rw [heq] at heb
        obtain ⟨cb, δ, N, _, hp⟩ := heb.ptr_inv
        exact ⟨_, hp⟩
      · rename_i cs heq
        rw [heq] at heb
        obtain ⟨cb, fo, arr, hp, _⟩ := heb.fp_inv
        exact ⟨_, hp⟩
      · cases hv
    obtain ⟨ad, had⟩ := hptr
    rw [had] at hload
    simp only [Instr.loadAt, Instr.sureAddr, Sem.run_bind, Sem.run_pure, Result.andThen_ok] at hload
    have hasa : (asAddr (.pointer (some ad))).run P w = .ok ad w := rfl
    simp only [List.mapM_cons, Sem.run_bind, h2, had, hasa, Sem.run_pure, Result.andThen_ok, hload, hrun f h1 h2]

/-- A frame's marks are come to, one by one. -/
theorem leaves_marks {P : Program} {fn : Func} {tmps : Array Value} {R : Ending → World → Prop} {B : BS P} {μ : Img} : ∀ (ms : List Nat) (cbs : List Nat) (h h' : AH) (w : World), marksEnd h ms = some h' → HR B μ h w.heap →
    cbs.length = ms.length → (∀ (i m : Nat), ms[i]? = some m → ∃ c δ N, cbs[i]? = some c ∧ μ m = some (c, δ, N)) →
    (∀ w', HR B μ h' w'.heap → BelowS B w w' → ∃ v, (results fn tmps).run P w' = .ok v w' ∧ R (.returned v) w') →
    LeavesInM Fence.wide 0 P fn tmps R (cbs.map fun c => { target := .collected c, args := #[] }) .returning w
  | [], cbs, h, h', w, hm, hr, hl, hc, hR => by
    have : cbs = [] := List.length_eq_zero_iff.1 (by simpa using hl)
    subst this
    simp only [marksEnd, Option.some.injEq] at hm
    subst hm
    exact hR w hr (.refl _ _)
  | m :: ms, cbs, h, h', w, hm, hr, hl, hc, hR => by
    cases cbs with
    | nil => simp at hl
    | cons c cbs =>
      obtain ⟨c', δ, N, h1, h2⟩ := hc 0 m rfl
      simp at h1; subst h1
      simp only [marksEnd] at hm
      split at hm
      case h_2 => cases hm
      rename_i hd
      obtain ⟨_, cb', δ', N', g1, g2, g3⟩ := hr.blk m _ hd
      rw [h2] at g1; cases g1
      have hrun := run_takeDeferred (P := P) g2
      have hr' : HR B μ (h.put m .dead) (w.putObj c (.deferred none)).heap := hr.write hd rfl h2 g3 trivial
      refine ⟨by simp, .inl ⟨c, _, rfl, hrun, leaves_marks ms cbs _ h' _ hm hr' (by simpa using hl) (fun i m hi => hc (i + 1) m hi) fun w' hr'' hB => hR w' hr'' ?_⟩⟩
      exact BelowS.trans (below_set w c _ g3) hB

theorem retK_fin {P : Program} {T : TT} (hT : TAgree P T) {B : BS P} {μ : Img} {e : Env} {a : Act} (he : ER μ e a) {h : AH} {w : World} (hr : HR B μ h w.heap) {fn : Func} {rs : List ResultVar} (hres : fn.results.toList = rs)
    {v : AV} {h' : AH} (hm : (resultsOf T rs e h).map (fun vs => (oneOrAll vs, h)) = some (v, h')) : ∃ u, (results fn a.tmps).run P w = .ok u w ∧ VR μ v u ∧ h' = h := by
  simp only [Option.map_eq_some_iff, Prod.mk.injEq] at hm
  obtain ⟨vs', hvs', rfl, rfl⟩ := hm
  obtain ⟨us, hvr, hrun⟩ := results_sim hT he hr rs vs' hvs'
  have hres' : (results fn a.tmps).run P w = .ok (if h : us.toArray.size = 1 then us.toArray[0] else .tuple us.toArray) w := by
    unfold results
    simp only [Sem.run_bind, Sem.run_pure]
    rw [Array.mapM_eq_mapM_toList, Sem.run_map, hres, hrun _ (fun _ => rfl) (fun _ _ => rfl)]
    rfl
  refine ⟨_, hres', ?_, rfl⟩
  have hl := hvr.length
  cases us with
  | nil =>
    cases vs' with
    | nil => exact VR.mk_tup (by simpa using hvr)
    | cons _ _ => simp at hl
  | cons u us =>
    cases us with
    | nil =>
      cases vs' with
      | nil => simp at hl
      | cons x xs =>
        cases xs with
        | cons _ _ => simp at hl
        | nil =>
          obtain ⟨_, _, he', hx, _⟩ := hvr.cons_inv
          cases he'
          exact hx
    | cons u2 us =>
      cases vs' with
      | nil => simp at hl
      | cons x xs =>
        cases xs with
        | nil => simp at hl
        | cons y ys => exact VR.mk_tup (by simpa using hvr)

theorem call_sim {P : Program} {T : TT} (hT : TAgree P T) (hmix : P.follows .mixedOrders = true) {F : Nat → Option FI} (hF : FAgree P F) {I : Nat → Option (List AV → AH → Rs)} (hI : IAgree P I) (B : BS P) :
    ∀ n, CallOK P B (call F I T n)
  | 0 => fun f args h v h' hc => by simp [call] at hc
  | n + 1 => fun f args h v h' hc => by
    simp only [call] at hc
    cases hfY : Nat.beq f YLD with
    | true =>
      rw [hfY] at hc
      refine ⟨fun h => absurd h (by simp), fun _ l as hargs μ w vs cb δ N hvs hr hm => ?_⟩
      subst hargs
      exact yield_sim hT hmix (fun B => call_sim hT hmix hF hI B n) n hc μ w vs cb δ N hvs hr hm
    | false =>
    rw [hfY] at hc
    simp only at hc
    refine ⟨fun _ => ?_, fun h => absurd h (by simp)⟩
    cases hIf : I f with
    | some g =>
      simp only [hIf] at hc
      obtain ⟨h1, h2⟩ := hI.fn f g hIf
      exact ⟨h1, fun μ w vs hvs hr => h2 args h v h' hc B μ vs w hvs hr⟩
    | none =>
      simp only [hIf] at hc
      cases hFf : F f with
      | none => simp [hFf] at hc
      | some fi =>
        simp only [hFf, body] at hc
        obtain ⟨fn, hfn, hbody, hres, hdst, hname, hnt⟩ := hF.fn f fi hFf
        have hname' : ¬ fn.name = "runtime.NumGoroutine" := by simpa using hname
        refine ⟨fun as w => by simp [callFunc, hfn, hname', hbody], fun μ w vs hvs hr => ?_⟩
        have hlen := hvs.length
        have her : ER μ (env0 args) { tmps := vs.toArray ++ Array.replicate (fn.ntmps - vs.toArray.size) undef, defers := [] } := by
          intro t
          unfold env0
          cases ha : args[t]? with
          | none => exact VR.mk_bad _
          | some x =>
            obtain ⟨u, hu, hur⟩ := hvs.get ha
            have hlt : t < vs.length := (List.getElem?_eq_some_iff.1 hu).1
            simp only [Option.getD_some]
            rw [Array.getD_eq_getD_getElem?, Array.getElem?_append_left (by simpa using hlt)]
            simp only [List.getElem?_toArray, hu, Option.getD_some]
            exact hur
        cases hrf : fi.rf with
        | false =>
          rw [hrf] at hc
          simp only at hc
          have hst : St B (vs.toArray ++ Array.replicate (fn.ntmps - vs.toArray.size) undef).size false μ w (env0 args) h { tmps := vs.toArray ++ Array.replicate (fn.ntmps - vs.toArray.size) undef, defers := [] } w :=
            ⟨μ, Img.le.refl μ, her, hr, rfl, rfl, .refl _ _⟩
          refine calls_of_wp hfn hbody ((wpIn_wide (n := 0)).1 ?_)
          refine wpIn_mono (code_sim hT hmix (fun B => call_sim hT hmix hF hI B n) (ro := none) n fi.body (env0 args) h (retK T fi.results) _ w hc (dstOk_mono (by simp; omega) _ hdst) hst (fun _ => rfl)) ?_
          rintro ex a' w' ⟨ex', e', h2, hex, hK, μ', hμ, he, hr', _, hdf, hB⟩
          have hfin : (resultsOf T fi.results e' h2).map (fun vs => (oneOrAll vs, h2)) = some (v, h') → a'.defers = [] ∧ ∃ u, (results fn a'.tmps).run P w' = .ok u w' ∧ (∃ v', (Ending.returned u) = .returned v' ∧ Grows B μ w v h' v' w') := by
            intro hm
            obtain ⟨u, h1, h2, rfl⟩ := retK_fin hT he hr' hres hm
            exact ⟨hdf, u, h1, u, rfl, μ', hμ, h2, hr', hB⟩
          cases ex' with
          | normal =>
            cases ex <;> simp only [exR] at hex
            exact hfin hK
          | exit i => simp [retK] at hK
          | ret =>
            cases ex <;> simp only [exR] at hex
            exact hfin hK
        | true =>
          rw [hrf] at hc
          simp only at hc
          cases hle : Nat.ble args.length HID with
          | false => rw [hle] at hc; cases hc
          | true =>
          rw [hle] at hc
          simp only at hc
          have hle' : args.length ≤ HID := Nat.le_of_ble_eq_true hle
          have hnt' := hnt hrf
          have hst : St B (vs.toArray ++ Array.replicate (fn.ntmps - vs.toArray.size) undef).size true μ w ((env0 args).set HID .bad) h { tmps := vs.toArray ++ Array.replicate (fn.ntmps - vs.toArray.size) undef, defers := [] } w := by
            refine ⟨μ, Img.le.refl μ, ?_, hr, rfl, ⟨by simp; omega, [], rfl, ?_, ?_⟩, .refl _ _⟩
            · intro t
              simp only [Env.set]
              cases hb : Nat.beq t HID with
              | true => exact VR.mk_bad _
              | false => exact her t
            · rw [Env.set_same]; rfl
            · intro i m hi; rw [Env.set_same] at hi; simp [marks] at hi
          refine (callsIn_wide (n := 0)).1 (callsIn_of_wp_marks hfn hbody trivial ?_)
          refine wpIn_mono (code_sim hT hmix (fun B => call_sim hT hmix hF hI B n) (ro := none) n fi.body _ h (retM T fi.results) _ w hc (dstOk_mono (by simp; omega) _ hdst) hst (fun _ => rfl)) ?_
          rintro ex a' w' ⟨ex', e', h2, hex, hK, μ', hμ, he, hr', _, ⟨_, cbs, hcb, hcl, hcc⟩, hB⟩
          have hfin : ∀ h3, marksEnd h2 (marks (e' HID)) = some h3 → (resultsOf T fi.results e' h3).map (fun vs => (oneOrAll vs, h3)) = some (v, h') →
              LeavesInM Fence.wide 0 P fn a'.tmps (fun e w' => ∃ v', e = .returned v' ∧ Grows B μ w v h' v' w') a'.defers .returning w' := by
            intro h3 hm hm2
            rw [hcb]
            refine leaves_marks (marks (e' HID)) cbs h2 h3 w' hm hr' hcl hcc fun w2 hr2 hB2 => ?_
            obtain ⟨u, h1, h2', rfl⟩ := retK_fin hT he hr2 hres hm2
            exact ⟨u, h1, u, rfl, μ', hμ, h2', hr2, hB.trans hB2⟩
          simp only [retM, Option.bind_eq_some_iff] at hK
          obtain ⟨h3, hm, hK⟩ := hK
          cases ex' with
          | normal =>
            cases ex <;> simp only [exR] at hex
            exact hfin h3 hm hK
          | exit i => simp [retK] at hK
          | ret =>
            cases ex <;> simp only [exR] at hex
            exact hfin h3 hm hK

end Go.AM
